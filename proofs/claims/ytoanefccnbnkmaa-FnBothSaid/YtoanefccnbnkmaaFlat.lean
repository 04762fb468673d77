/- Slices of structs of int fields, read or written, as flat lists of their cells. -/
import Derived.Test.YtoanefccnbnkmaaRow
namespace Go.Proofs.Ytoanefccnbnkmaa
open Go.RowKit

/-- A slice of n structs of s int fields that can be read; its cells lie in blocks below hi. -/
def SlF (s : Nat) (w : World) (hi : Nat) (v : Value) (cs : List Int) (n : Nat) : Prop :=
  ∃ a cap, v = .slice a n cap ∧ cs.length = n * s ∧ n ≤ 1048576 ∧ n ≤ cap ∧ cap ≤ 9223372036854775807 ∧
    (0 < n → ∃ b off, a = some ⟨b, off, none⟩ ∧ b < hi ∧ ∀ k, k < n * s → w.cell? ⟨b, off + k, none⟩ = some (.int .i64 (gi cs k)))
/-- The same, and writable; its block lies in [lo, hi). -/
def WrF (s : Nat) (e : TypeId) (w : World) (lo hi : Nat) (v : Value) (cs : List Int) (n : Nat) : Prop :=
  ∃ a cap, v = .slice a n cap ∧ cs.length = n * s ∧ n ≤ 1048576 ∧ n ≤ cap ∧ cap ≤ 9223372036854775807 ∧
    (0 < n → ∃ g off cur, a = some ⟨g, off, none⟩ ∧ lo ≤ g ∧ g < hi ∧ w.heap[g]? = some (.cells cur e (0, 0)) ∧ off + n * s ≤ cur.size ∧
      ∀ k, k < n * s → cur[off + k]? = some (.int .i64 (gi cs k)))

section
variable {s : Nat} {e : TypeId} {w w' : World} {lo hi lo' hi' n : Nat} {v : Value} {cs : List Int}
theorem SlF.old (h : SlF s w hi v cs n) (hb : Below w.heap.size w w') : SlF s w' hi v cs n := by
  obtain ⟨a, cap, rfl, h1, h2, h3, h4, h5⟩ := h
  refine ⟨a, cap, rfl, h1, h2, h3, h4, fun hn => ?_⟩
  obtain ⟨b, off, rfl, hbh, hc⟩ := h5 hn
  exact ⟨b, off, rfl, hbh, fun k hk => (hb.cell (p := ⟨b, off + k, none⟩) (World.block_lt_of_cell? w _ (hc k hk))).trans (hc k hk)⟩
theorem SlF.below {B : Nat} (h : SlF s w hi v cs n) (hb : Below B w w') (hB : hi ≤ B) : SlF s w' hi v cs n := by
  obtain ⟨a, cap, rfl, h1, h2, h3, h4, h5⟩ := h
  refine ⟨a, cap, rfl, h1, h2, h3, h4, fun hn => ?_⟩
  obtain ⟨b, off, rfl, hbh, hc⟩ := h5 hn
  exact ⟨b, off, rfl, hbh, fun k hk => (hb.cell (p := ⟨b, off + k, none⟩) (Nat.lt_of_lt_of_le hbh hB)).trans (hc k hk)⟩
theorem SlF.mono (h : SlF s w hi v cs n) (hh : hi ≤ hi') : SlF s w hi' v cs n := by
  obtain ⟨a, cap, rfl, h1, h2, h3, h4, h5⟩ := h
  refine ⟨a, cap, rfl, h1, h2, h3, h4, fun hn => ?_⟩
  obtain ⟨b, off, rfl, hbh, hc⟩ := h5 hn
  exact ⟨b, off, rfl, by omega, hc⟩
theorem SlF.out (h : SlF s w hi v cs n) (hb : Out lo' hi' w w') (hd : hi ≤ lo') : SlF s w' hi v cs n := by
  obtain ⟨a, cap, rfl, h1, h2, h3, h4, h5⟩ := h
  refine ⟨a, cap, rfl, h1, h2, h3, h4, fun hn => ?_⟩
  obtain ⟨b, off, rfl, hbh, hc⟩ := h5 hn
  exact ⟨b, off, rfl, hbh, fun k hk => (World.cell?_of_block (a := ⟨b, off + k, none⟩) (hb.block b (World.block_lt_of_cell? w _ (hc k hk)) (by omega))).trans (hc k hk)⟩
theorem SlF.len (h : SlF s w hi v cs n) : cs.length = n * s ∧ n ≤ 1048576 := by
  obtain ⟨a, cap, rfl, h1, h2, h3⟩ := h
  exact ⟨h1, h2⟩
theorem WrF.len (h : WrF s e w lo hi v cs n) : cs.length = n * s ∧ n ≤ 1048576 := by
  obtain ⟨a, cap, rfl, h1, h2, h3⟩ := h
  exact ⟨h1, h2⟩
theorem SlF.drewN (h : SlF s w hi v cs n) (m : Nat) : SlF s (w.drewN m) hi v cs n := h
theorem WrF.drewN (h : WrF s e w lo hi v cs n) (m : Nat) : WrF s e (w.drewN m) lo hi v cs n := h
theorem WrF.sl (h : WrF s e w lo hi v cs n) : SlF s w hi v cs n := by
  obtain ⟨a, cap, rfl, h1, h2, h3, h4, h5⟩ := h
  refine ⟨a, cap, rfl, h1, h2, h3, h4, fun hn => ?_⟩
  obtain ⟨g, off, cur, rfl, _, hg, hh, hs, hc⟩ := h5 hn
  exact ⟨g, off, rfl, hg, fun k hk => by rw [cell_of_row w g (off + k) cur _ (0, 0) hh]; exact hc k hk⟩
theorem WrF.mono (h : WrF s e w lo hi v cs n) (hl : lo' ≤ lo) (hh : hi ≤ hi') : WrF s e w lo' hi' v cs n := by
  obtain ⟨a, cap, rfl, h1, h2, h3, h4, h5⟩ := h
  refine ⟨a, cap, rfl, h1, h2, h3, h4, fun hn => ?_⟩
  obtain ⟨g, off, cur, rfl, hlo, hhi, r⟩ := h5 hn
  exact ⟨g, off, cur, rfl, by omega, by omega, r⟩
theorem WrF.of_block (h : WrF s e w lo hi v cs n) (hb : ∀ k, k < w.heap.size → lo ≤ k → k < hi → w'.heap[k]? = w.heap[k]?) : WrF s e w' lo hi v cs n := by
  obtain ⟨a, cap, rfl, h1, h2, h3, h4, h5⟩ := h
  refine ⟨a, cap, rfl, h1, h2, h3, h4, fun hn => ?_⟩
  obtain ⟨g, off, cur, rfl, hlo, hhi, hh, r⟩ := h5 hn
  exact ⟨g, off, cur, rfl, hlo, hhi, (hb g (Array.getElem?_eq_some_iff.1 hh).1 hlo hhi).trans hh, r⟩
theorem WrF.old (h : WrF s e w lo hi v cs n) (hb : Below w.heap.size w w') : WrF s e w' lo hi v cs n :=
  h.of_block fun k hk _ _ => hb.block k hk
theorem WrF.out (h : WrF s e w lo hi v cs n) (hb : Out lo' hi' w w') (hd : hi ≤ lo' ∨ hi' ≤ lo) : WrF s e w' lo hi v cs n :=
  h.of_block fun k hk _ _ => hb.block k hk (by omega)
theorem WrF.nil (s : Nat) (e : TypeId) (w : World) (lo hi : Nat) : WrF s e w lo hi (.slice none 0 0) [] 0 := ⟨none, 0, rfl, by simp, by omega, by omega, by omega, fun h => by omega⟩
/-- What a row of the call's own is worth. -/
theorem WrF.of_own {B : Nat} (h : w.ownsRow B e s v n (cs.map (Value.int .i64))) (hn : n ≤ 1048576) : WrF s e w B w.heap.size v cs n := by
  obtain ⟨hl, hv⟩ := h
  have hln : cs.length = n * s := by simpa using hl
  rcases hv with ⟨rfl, rfl⟩ | ⟨g, cap, cur, rfl, hB, hg, hc1, hc2, hc3, hc4⟩
  · exact ⟨none, 0, rfl, hln, by omega, by omega, by omega, fun h => by omega⟩
  · have hle : n * s ≤ cap * s := Nat.mul_le_mul_right s hc1
    refine ⟨some ⟨g, 0, none⟩, cap, rfl, hln, hn, hc1, hc2, fun _ => ⟨g, 0, cur, rfl, hB, (Array.getElem?_eq_some_iff.1 hg).1, hg, by omega, fun k hk => ?_⟩⟩
    have : (cur.toList.take (n * s))[k]? = some (.int .i64 (gi cs k)) := by
      rw [hc4, List.getElem?_map]
      have : k < cs.length := by omega
      simp [gi, this]
    rw [List.getElem?_take_of_lt hk] at this
    simpa using this
end
/-- The cells of the k-th struct. -/
theorem cel3 {w w' : World} {b off n k B : Nat} {cs : List Int} (hc : ∀ k, k < n * 3 → w.cell? ⟨b, off + k, none⟩ = some (.int .i64 (gi cs k))) (hk : k < n) (hB : Below B w w') (hb : b < B) :
    w'.cell? ⟨b, off + k * 3, none⟩ = some (.int .i64 (gi cs (k * 3))) ∧ w'.cell? ⟨b, off + k * 3 + 1, none⟩ = some (.int .i64 (gi cs (k * 3 + 1))) ∧ w'.cell? ⟨b, off + k * 3 + 2, none⟩ = some (.int .i64 (gi cs (k * 3 + 2))) := by
  have h := fun j hj => (hB.cell (p := ⟨b, off + j, none⟩) hb).trans (hc j hj)
  exact ⟨h (k * 3) (by omega), by rw [Nat.add_assoc]; exact h (k * 3 + 1) (by omega), by rw [Nat.add_assoc]; exact h (k * 3 + 2) (by omega)⟩
theorem cel2 {w w' : World} {b off n k B : Nat} {cs : List Int} (hc : ∀ k, k < n * 2 → w.cell? ⟨b, off + k, none⟩ = some (.int .i64 (gi cs k))) (hk : k < n) (hB : Below B w w') (hb : b < B) :
    w'.cell? ⟨b, off + k * 2, none⟩ = some (.int .i64 (gi cs (k * 2))) ∧ w'.cell? ⟨b, off + k * 2 + 1, none⟩ = some (.int .i64 (gi cs (k * 2 + 1))) := by
  have h := fun j hj => (hB.cell (p := ⟨b, off + j, none⟩) hb).trans (hc j hj)
  exact ⟨h (k * 2) (by omega), by rw [Nat.add_assoc]; exact h (k * 2 + 1) (by omega)⟩
theorem set_run {cu : Array Value} {F : Nat → Value} {k : Nat} (h : ∀ t, t < k → cu[t]? = some (F t)) (hk : k < cu.size) : ∀ t, t < k + 1 → (cu.setIfInBounds k (F k))[t]? = some (F t) := fun t ht => by
  by_cases e : t = k
  · subst e; rw [Array.getElem?_setIfInBounds_self_of_lt hk]
  · rw [Array.getElem?_setIfInBounds_ne (by omega)]; exact h t (by omega)
theorem set_run2 {cu : Array Value} {F : Nat → Value} {k : Nat} (h : ∀ t, t < k * 2 → cu[t]? = some (F t)) (hk : (k + 1) * 2 ≤ cu.size) : ∀ t, t < (k + 1) * 2 → ((cu.setIfInBounds (k * 2) (F (k * 2))).setIfInBounds (k * 2 + 1) (F (k * 2 + 1)))[t]? = some (F t) := fun t ht =>
  set_run (set_run h (by omega)) (by simp; omega) t (by omega)
theorem set_run3 {cu : Array Value} {F : Nat → Value} {k : Nat} (h : ∀ t, t < k * 3 → cu[t]? = some (F t)) (hk : (k + 1) * 3 ≤ cu.size) : ∀ t, t < (k + 1) * 3 → (((cu.setIfInBounds (k * 3) (F (k * 3))).setIfInBounds (k * 3 + 1) (F (k * 3 + 1))).setIfInBounds (k * 3 + 2) (F (k * 3 + 2)))[t]? = some (F t) := fun t ht =>
  set_run (set_run (set_run h (by omega)) (by simp; omega)) (by simp; omega) t (by omega)
/-- The same behind an offset. -/
theorem set_off {cu : Array Value} {F : Nat → Value} {off k : Nat} (h : ∀ t, t < k → cu[off + t]? = some (F t)) (hk : off + k < cu.size) : ∀ t, t < k + 1 → (cu.setIfInBounds (off + k) (F k))[off + t]? = some (F t) := fun t ht => by
  by_cases e : t = k
  · subst e; rw [Array.getElem?_setIfInBounds_self_of_lt hk]
  · rw [Array.getElem?_setIfInBounds_ne (by omega)]; exact h t (by omega)
theorem set_off2 {cu : Array Value} {F : Nat → Value} {off k : Nat} (h : ∀ t, t < k * 2 → cu[off + t]? = some (F t)) (hk : off + (k + 1) * 2 ≤ cu.size) : ∀ t, t < (k + 1) * 2 → ((cu.setIfInBounds (off + k * 2) (F (k * 2))).setIfInBounds (off + k * 2 + 1) (F (k * 2 + 1)))[off + t]? = some (F t) := fun t ht => by
  rw [Nat.add_assoc off]
  exact set_off (set_off h (by omega)) (by simp; omega) t (by omega)
theorem set_off3 {cu : Array Value} {F : Nat → Value} {off k : Nat} (h : ∀ t, t < k * 3 → cu[off + t]? = some (F t)) (hk : off + (k + 1) * 3 ≤ cu.size) : ∀ t, t < (k + 1) * 3 → (((cu.setIfInBounds (off + k * 3) (F (k * 3))).setIfInBounds (off + k * 3 + 1) (F (k * 3 + 1))).setIfInBounds (off + k * 3 + 2) (F (k * 3 + 2)))[off + t]? = some (F t) := fun t ht => by
  rw [Nat.add_assoc off, Nat.add_assoc off]
  exact set_off (set_off (set_off h (by omega)) (by simp; omega)) (by simp; omega) t (by omega)
theorem addr_add (b off k : Nat) : (⟨b, off, none⟩ : Addr).add k = ⟨b, off + k, none⟩ := by unfold Addr.add; split <;> simp_all

end Go.Proofs.Ytoanefccnbnkmaa
