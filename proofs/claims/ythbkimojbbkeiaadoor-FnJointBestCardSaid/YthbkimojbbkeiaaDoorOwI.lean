/- Slices of ints of the call's own: their form; appending a list; two slices that lie apart. -/
import Derived.Test.YthbkimojbbkeiaaDoorStack
import Derived.Laws.AppendOwnNone
namespace Go.Proofs.YthbkimojbbkeiaaDoor
open Go.RowKit

theorem OwI.form {w : World} {B : Nat} {v : Value} {ys : List Int} (h : OwI w B v ys) (hn : 0 < ys.length) :
    ∃ g cap, v = .slice (some ⟨g, 0, none⟩) ys.length cap ∧ B ≤ g ∧ g < w.heap.size ∧ ys.length ≤ cap ∧ cap ≤ 9223372036854775807 ∧ (∀ k, k < ys.length → w.cell? ⟨g, k, none⟩ = some (.int .i64 (gi ys k))) ∧ ∀ k, w.frozen? ⟨g, k, none⟩ = false := by
  obtain ⟨hl, hv⟩ := h
  rcases hv with ⟨_, h0⟩ | ⟨g, cap, cur, rfl, hB, hg, hc1, hc2, hc3, hc4⟩
  · omega
  · refine ⟨g, cap, rfl, hB, (Array.getElem?_eq_some_iff.1 hg).1, hc1, by unfold maxLen at hc2; omega, fun k hk => ?_, fun k => frozen_of_row w g k cur _ hg⟩
    rw [cell_of_row w g k cur _ (0, 0) hg]
    have : (cur.toList.take (ys.length * 1))[k]? = some (.int .i64 (gi ys k)) := by
      rw [hc4, List.getElem?_map]
      simp [gi, List.getElem?_eq_getElem hk]
    rw [List.getElem?_take] at this
    split at this
    · simpa using this
    · cases this

theorem OwI.set {w : World} {B g n cap : Nat} {ys : List Int} (h : OwI w B (.slice (some ⟨g, 0, none⟩) n cap) ys) (k : Nat) (u : Int) :
    OwI (w.setCell ⟨g, k, none⟩ (.int .i64 u)) B (.slice (some ⟨g, 0, none⟩) n cap) (ys.set k u) := by
  obtain ⟨hl, hv⟩ := h
  refine ⟨by simp, ?_⟩
  rcases hv with ⟨e, _⟩ | ⟨g', cap', cur, e, hB, hg, hc1, hc2, hc3, hc4⟩
  · cases e
  · cases e
    refine .inr ⟨g, cap, _, by simp, hB, heap_setCell_same w g k cur _ (.int .i64 u) hg, by simpa using hc1, hc2, by simpa using hc3, ?_⟩
    rw [List.length_set, Array.toList_setIfInBounds, List.take_set, hc4, List.map_set]

/-- A slice that an append reads: nil, or cells from an address on. -/
def Src (w : World) (v : Value) (zs : List Int) : Prop :=
  (v = .slice none 0 0 ∧ zs = []) ∨ ∃ b off c, v = .slice (some ⟨b, off, none⟩) zs.length c ∧ ∀ k, k < zs.length → w.cell? ⟨b, off + k, none⟩ = some (.int .i64 (gi zs k))

theorem OwI.src {w : World} {B : Nat} {v : Value} {ys : List Int} (h : OwI w B v ys) : Src w v ys := by
  by_cases h0 : 0 < ys.length
  · obtain ⟨g, cap, rfl, _, _, _, _, hc, _⟩ := h.form h0
    exact .inr ⟨g, 0, cap, rfl, fun k hk => by rw [Nat.zero_add]; exact hc k hk⟩
  · have e : ys = [] := by cases ys with
      | nil => rfl
      | cons a l => simp at h0
    subst e
    obtain ⟨_, hv⟩ := h
    rcases hv with ⟨rfl, _⟩ | ⟨g, cap, cur, rfl, _⟩
    · exact .inl ⟨rfl, rfl⟩
    · exact .inr ⟨g, 0, cap, rfl, fun k hk => absurd hk (by simp)⟩

/-- A slice of the call's own, in its form. -/
theorem OwI.form2 {w : World} {B : Nat} {v : Value} {ys : List Int} (h : OwI w B v ys) : ∃ a c, v = .slice a ys.length c ∧ (0 < ys.length → ∃ g, a = some ⟨g, 0, none⟩ ∧ B ≤ g ∧ g < w.heap.size ∧ ys.length ≤ c ∧ c ≤ 9223372036854775807 ∧
    (∀ k, k < ys.length → w.cell? ⟨g, k, none⟩ = some (.int .i64 (gi ys k))) ∧ ∀ k, w.frozen? ⟨g, k, none⟩ = false) := by
  by_cases h0 : 0 < ys.length
  · obtain ⟨g, cap, rfl, r⟩ := h.form h0
    exact ⟨_, cap, rfl, fun _ => ⟨g, rfl, r⟩⟩
  · obtain ⟨_, hv⟩ := h
    rcases hv with ⟨rfl, h1⟩ | ⟨g, cap, cur, rfl, _⟩
    · exact ⟨none, 0, by rw [h1], fun h => absurd h h0⟩
    · exact ⟨_, cap, rfl, fun h => absurd h h0⟩

theorem OwI.form3 {w : World} {B : Nat} {v : Value} {ys : List Int} (h : OwI w B v ys) : ∃ a n c, v = .slice a n c ∧ Hid (ys.length = n) := by
  obtain ⟨a, c, e, _⟩ := h.form2
  exact ⟨a, _, c, e, rfl⟩

theorem OwI.at {w : World} {B g n c : Nat} {ys : List Int} (h : OwI w B (.slice (some ⟨g, 0, none⟩) n c) ys) {k : Nat} (hk : k < ys.length) :
    w.cell? ⟨g, k, none⟩ = some (.int .i64 (gi ys k)) ∧ w.frozen? ⟨g, k, none⟩ = false ∧ B ≤ g ∧ n = ys.length := by
  obtain ⟨g', cap, e, h1, h2, h3, h4, h5, h6⟩ := h.form (by omega)
  cases e
  exact ⟨h5 k hk, h6 k, h1, rfl⟩

/-- 'append(out, zs...)'. -/
theorem wpList_app {ops : Array Oper} {rest : List Oper} {o : Oper} {a : Act} {Q : Exit → Act → World → Prop} {w : World} {B : Nat} {v sv : Value} {ys zs : List Int} {s x : Operand} (hown : OwI w B v ys) (hsrc : Src w sv zs) (hgd : o.guard = none)
    (ho : o.op = .call { callee := .builtin .append, args := #[s, x], argTypes := #[40, 40] })
    (hs : a.eval s = v) (hx : a.eval x = sv) (hlen : ys.length ≤ 1048576) (hlen2 : zs.length ≤ 1048576) (hB : B ≤ w.heap.size)
    (h : ∀ v' w', OwI w' B v' (ys ++ zs) → Below B w w' → w.grownBy w' v.ownBlock → wpList Tryd.prog ops Q rest (a.put o.dst v') w') :
    wpList Tryd.prog ops Q (o :: rest) a w := by
  obtain ⟨i, hi, hz, hsz, hb⟩ := info_parts infoInt
  rcases hsrc with ⟨rfl, rfl⟩ | ⟨b, off, c, rfl, hc⟩
  · refine wpList_append_own_none hgd s x 40 ho B 3 i 1 Tryd.underlying40 hi v ys.length _ hs hown hx ?_
    refine h v w (by rw [List.append_nil]; exact hown) (Below.refl _ _) ⟨rfl, rfl, rfl, Nat.le_refl _, fun _ _ _ => rfl⟩
  · refine wpList_append_own w hgd s x 40 ho B 3 i (.int .i64 0) 1 8 Tryd.underlying40 hi hz hsz hb rfl (by decide) v ys.length _ hs hown ⟨b, off, none⟩ zs.length c (zs.map (Value.int .i64)) hx (by simp) ?_ ?_ ?_ ?_ hB ?_
    · intro j u hj
      rw [List.getElem?_map] at hj
      have hjl : j < zs.length := by
        cases e : zs[j]? with
        | none => rw [e] at hj; cases hj
        | some z => exact (List.getElem?_eq_some_iff.1 e).1
      have ea : (⟨b, off, none⟩ : Addr).add j = ⟨b, off + j, none⟩ := by unfold Addr.add; split <;> simp_all
      rw [ea, hc j hjl]
      simp only [List.getElem?_eq_getElem hjl, Option.map_some] at hj
      rw [gi_eq hjl]; exact hj
    · intro u hu
      rw [List.mem_map] at hu
      obtain ⟨z, _, rfl⟩ := hu
      rfl
    · unfold maxLen; omega
    · omega
    · intro v' w' h1 h2 _
      refine h v' w' ?_ ?_ h2
      · unfold OwI
        rw [List.length_append, List.map_append]
        exact h1
      · exact (Below.refl B w).grown h2 hB (fun k hk => (hown.lt k hk).1)

/-- make([]int, n). -/
theorem OwI.zeros (w : World) (B n : Nat) (hB : B ≤ w.heap.size) (hn : n ≤ 1048576) : OwI (w.alloc (.cells (Array.replicate n (.int .i64 0)) 3)) B (.slice (some ⟨w.heap.size, 0, none⟩) n n) (List.replicate n 0) := by
  unfold OwI
  rw [List.length_replicate]
  refine ⟨by simp, .inr ⟨w.heap.size, n, _, rfl, hB, heap_alloc_new w _, Nat.le_refl _, by unfold maxLen; omega, by simp, by simp⟩⟩

/-- Two slices of the call's own in different blocks. -/
def Apt (u v : Value) : Prop := ∀ g, u.ownBlock = some g → v.ownBlock = some g → False
theorem Apt.symm {u v : Value} (h : Apt u v) : Apt v u := fun g a b => h g b a
theorem Apt.push {w : World} {B : Nat} {u v v' : Value} {ys : List Int} (h : Apt u v) (hu : OwI w B u ys) (hn : NewBlk w v v') : Apt u v' := by
  intro g a b
  rcases hn with e | ⟨g', e, hg⟩
  · rw [e] at b; exact h g a b
  · rw [e] at b; cases b
    have := (hu.lt g a).2
    omega
theorem OwI.grown {w w' : World} {B : Nat} {u v : Value} {ys : List Int} (h : OwI w B u ys) (hg : w.grownBy w' v.ownBlock) (ha : Apt u v) : OwI w' B u ys := by
  refine World.ownsRow.kept h hg ?_
  cases e : u.ownBlock with
  | none => exact .inl rfl
  | some g => exact .inr fun e2 => ha g e e2.symm
theorem OwI.other {w : World} {B : Nat} {u : Value} {ys : List Int} (h : OwI w B u ys) {p : Addr} {x : Value} (hp : u.ownBlock ≠ some p.block) : OwI (w.setCell p x) B u ys := by
  refine World.ownsRow.kept (row := some p.block) h ⟨rfl, rfl, rfl, by simp [World.setCell], fun k _ hk => Below.heap_setCell w p x k (fun e => hk (by rw [e]))⟩ ?_
  exact .inr hp

theorem Src.old {w w' : World} {v : Value} {zs : List Int} (h : Src w v zs) (hb : Below w.heap.size w w') : Src w' v zs := by
  rcases h with h | ⟨b, off, c, e, hc⟩
  · exact .inl h
  · exact .inr ⟨b, off, c, e, fun k hk => (hb.cell (p := ⟨b, off + k, none⟩) (World.block_lt_of_cell? w _ (hc k hk))).trans (hc k hk)⟩
theorem Src.drewN {w : World} {v : Value} {zs : List Int} (h : Src w v zs) (n : Nat) : Src (w.drewN n) v zs := h

theorem OwI.empty (w : World) (B : Nat) (hB : B ≤ w.heap.size) : OwI (w.alloc (.cells #[] 3)) B (.slice (some ⟨w.heap.size, 0, none⟩) 0 0) [] := OwI.new w B 0 #[] hB (by unfold maxLen; omega) rfl
/-- A slice of ints that is read and appended. -/
def Rs (w : World) (hi : Nat) (v : Value) (xs : List Int) : Prop := Sl w hi v xs ∧ Src w v xs
theorem Rs.old {w w' : World} {hi : Nat} {v : Value} {xs : List Int} (h : Rs w hi v xs) (hb : Below w.heap.size w w') : Rs w' hi v xs := ⟨h.1.old hb, h.2.old hb⟩
theorem OwI.rs {w : World} {B : Nat} {v : Value} {xs : List Int} (h : OwI w B v xs) (hn : xs.length ≤ 1048576) : Rs w w.heap.size v xs := ⟨(h.wr hn).sl, h.src⟩

end Go.Proofs.YthbkimojbbkeiaaDoor
