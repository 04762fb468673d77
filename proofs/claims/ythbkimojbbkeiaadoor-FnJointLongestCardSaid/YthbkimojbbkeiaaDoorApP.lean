/- Appending lists of spares; cuts of a list that an append reads. -/
import Derived.Test.YthbkimojbbkeiaaDoorSpDr
namespace Go.Proofs.YthbkimojbbkeiaaDoor
open Go.RowKit

/-- A slice of spares that an append reads: nil, or c of them from an address on. -/
def SrcP (w : World) (v : Value) (zs : List Int) (c : Nat) : Prop :=
  (v = .slice none 0 0 ∧ zs = [] ∧ c = 0) ∨ ∃ b off cap, v = .slice (some ⟨b, off, none⟩) c cap ∧ zs.length = c * 2 ∧ ∀ k, k < c * 2 → w.cell? ⟨b, off + k, none⟩ = some (.int .i64 (gi zs k))
theorem SrcP.old {w w' : World} {v : Value} {zs : List Int} {c : Nat} (h : SrcP w v zs c) (hb : Below w.heap.size w w') : SrcP w' v zs c := by
  rcases h with h | ⟨b, off, cap, e, hl, hc⟩
  · exact .inl h
  · exact .inr ⟨b, off, cap, e, hl, fun k hk => (hb.cell (p := ⟨b, off + k, none⟩) (World.block_lt_of_cell? w _ (hc k hk))).trans (hc k hk)⟩
theorem src_takeP {w : World} {b off n cap k : Nat} {ts : List Int} (hl : ts.length = n * 2) (hk : k ≤ n) (hc : ∀ j, j < n * 2 → w.cell? ⟨b, off + j, none⟩ = some (.int .i64 (gi ts j))) :
    SrcP w (.slice (some ⟨b, off, none⟩) k cap) (ts.take (k * 2)) k := by
  refine .inr ⟨b, off, cap, rfl, by simp; omega, fun j hj => ?_⟩
  rw [hc j (by omega)]
  simp [gi, hj]
theorem src_dropP {w : World} {b off n cap k : Nat} {ts : List Int} (hl : ts.length = n * 2) (hk : k ≤ n) (hc : ∀ j, j < n * 2 → w.cell? ⟨b, off + j, none⟩ = some (.int .i64 (gi ts j))) :
    SrcP w (.slice (some ⟨b, off + k * 2, none⟩) (n - k) cap) (ts.drop (k * 2)) (n - k) := by
  refine .inr ⟨b, off + k * 2, cap, rfl, by simp; omega, fun j hj => ?_⟩
  rw [Nat.add_assoc, hc (k * 2 + j) (by omega)]
  simp [gi]
theorem SlF.src {w : World} {hi n : Nat} {v : Value} {cs : List Int} (h : SlF 2 w hi v cs n) (hn : 0 < n) : SrcP w v cs n := by
  obtain ⟨a, cap, rfl, h1, h2, h3, h4, h5⟩ := h
  obtain ⟨b, off, rfl, _, hc⟩ := h5 hn
  exact .inr ⟨b, off, cap, rfl, h1, hc⟩

theorem spares_cells {w : World} {b off c : Nat} {zs : List Int} (hl : zs.length = c * 2) (hc : ∀ k, k < c * 2 → w.cell? ⟨b, off + k, none⟩ = some (.int .i64 (gi zs k))) :
    ∀ (j : Nat) (u : Value), (zs.map (Value.int .i64))[j]? = some u → w.cell? ((⟨b, off, none⟩ : Addr).add j) = some u := by
  intro j u hj
  rw [List.getElem?_map] at hj
  have hjl : j < zs.length := by
    cases e : zs[j]? with
    | none => rw [e] at hj; cases hj
    | some z => exact (List.getElem?_eq_some_iff.1 e).1
  rw [addr_add, hc j (by omega)]
  simp only [List.getElem?_eq_getElem hjl, Option.map_some] at hj
  rw [gi_eq hjl]; exact hj
theorem spares_one (zs : List Int) : ∀ u ∈ zs.map (Value.int .i64), u.oneCell' = true := by
  intro u hu
  rw [List.mem_map] at hu
  obtain ⟨z, _, rfl⟩ := hu
  rfl

/-- 'append(out, zs...)' as one step of a region that draws its order. -/
theorem step_appP {ops : Array Oper} {o : Oper} {a : Act} {K : Act → World → Prop} {Q : Exit → Act → World → Prop} {E : Prop} {w : World} {B c d : Nat} {v sv : Value} {ys zs : List Int} (s x : Operand) (hown : OwP w B v ys c) (hsrc : SrcP w sv zs d) (hgd : o.guard = none)
    (ho : o.op = .call { callee := .builtin .append, args := #[s, x], argTypes := #[23, 23] })
    (hs : a.eval s = v) (hx : a.eval x = sv) (hlen : c ≤ 1048576) (hlen2 : d ≤ 1048576) (hB : B ≤ w.heap.size)
    (h : ∀ v' w', OwP w' B v' (ys ++ zs) (c + d) → Below B w w' → K (a.put o.dst v') w') :
    if Region.wanted o (yielded ops a.tmps) = true then Oper.wp Tryd.prog o a w K Q else E := by
  have hw : Region.wanted o (yielded ops a.tmps) = true := by simp [Region.wanted, hgd]
  rw [if_pos hw]
  obtain ⟨i, hi, hz, hsz, hb⟩ := info_parts infoSpareD
  rcases hsrc with ⟨rfl, rfl, rfl⟩ | ⟨b, off, cap, rfl, hl, hc⟩
  · have hrun := run_append_owned_none (P := Tryd.prog) (w := w) B 23 o.type 30 i 2 Tryd.underlying23 hi v c _ hown
    unfold Oper.wp
    simp [execOp, ho, resolve, invoke, builtin, hs, hx, hrun, Result.andThen]
    exact h v w (by rw [List.append_nil]; exact hown) (Below.refl _ _)
  · refine wp_append_own w s x 23 ho B 30 i (.agg #[.int .i64 0, .int .i64 0]) 2 16 Tryd.underlying23 hi hz hsz hb rfl (by decide) v c _ hs hown ⟨b, off, none⟩ d cap (zs.map (Value.int .i64)) hx (by rw [List.length_map, hl]) (spares_cells hl hc) (spares_one zs) ?_ ?_ hB ?_
    · unfold maxLen; omega
    · omega
    · intro v' w' h1 h2 _
      refine h v' w' ?_ ?_
      · unfold OwP
        rw [List.map_append]
        exact h1
      · exact (Below.refl B w).grown h2 hB (fun k hk => (hown.lt k hk).1)

/-- 'append(out, zs...)'. -/
theorem wpList_appP {ops : Array Oper} {rest : List Oper} {o : Oper} {a : Act} {Q : Exit → Act → World → Prop} {w : World} {B c d : Nat} {v sv : Value} {ys zs : List Int} {s x : Operand} (hown : OwP w B v ys c) (hsrc : SrcP w sv zs d) (hgd : o.guard = none)
    (ho : o.op = .call { callee := .builtin .append, args := #[s, x], argTypes := #[23, 23] })
    (hs : a.eval s = v) (hx : a.eval x = sv) (hlen : c ≤ 1048576) (hlen2 : d ≤ 1048576) (hB : B ≤ w.heap.size)
    (h : ∀ v' w', OwP w' B v' (ys ++ zs) (c + d) → Below B w w' → wpList Tryd.prog ops Q rest (a.put o.dst v') w') :
    wpList Tryd.prog ops Q (o :: rest) a w := by
  obtain ⟨i, hi, hz, hsz, hb⟩ := info_parts infoSpareD
  rcases hsrc with ⟨rfl, rfl, rfl⟩ | ⟨b, off, cap, rfl, hl, hc⟩
  · refine wpList_append_own_none hgd s x 23 ho B 30 i 2 Tryd.underlying23 hi v c _ hs hown hx ?_
    exact h v w (by rw [List.append_nil]; exact hown) (Below.refl _ _)
  · refine wpList_append_own w hgd s x 23 ho B 30 i (.agg #[.int .i64 0, .int .i64 0]) 2 16 Tryd.underlying23 hi hz hsz hb rfl (by decide) v c _ hs hown ⟨b, off, none⟩ d cap (zs.map (Value.int .i64)) hx (by rw [List.length_map, hl]) (spares_cells hl hc) (spares_one zs) ?_ ?_ hB ?_
    · unfold maxLen; omega
    · omega
    · intro v' w' h1 h2 _
      refine h v' w' ?_ ?_
      · unfold OwP
        rw [List.map_append]
        exact h1
      · exact (Below.refl B w).grown h2 hB (fun k hk => (hown.lt k hk).1)

/-- needs[1:]. -/
theorem slF_tail {w : World} {hi b off n cap : Nat} {cs : List Int} (h : SlF 2 w hi (.slice (some ⟨b, off, none⟩) (n + 1) cap) cs (n + 1)) :
    SlF 2 w hi (.slice (some ⟨b, off + 2, none⟩) n (cap - 1)) (cs.drop 2) n := by
  obtain ⟨a, cap', e, h1, h2, h3, h4, h5⟩ := h
  cases e
  obtain ⟨b', off', e2, hb, hc⟩ := h5 (by omega)
  cases e2
  refine ⟨_, _, rfl, by simp; omega, by omega, by omega, by omega, fun hn => ⟨b, off + 2, rfl, hb, fun k hk => ?_⟩⟩
  rw [Nat.add_assoc, hc (2 + k) (by omega)]
  simp [gi]
theorem slF_empty {w : World} {hi : Nat} {a : Option Addr} {cs : List Int} (h : cs.length = 2) : SlF 2 w hi (.slice a 0 0) (cs.drop 2) 0 :=
  ⟨a, 0, rfl, by simp; omega, by omega, by omega, by omega, fun hn => absurd hn (by omega)⟩

end Go.Proofs.YthbkimojbbkeiaaDoor
