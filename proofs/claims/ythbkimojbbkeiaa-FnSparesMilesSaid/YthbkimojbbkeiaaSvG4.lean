/- append of a list of spares whatever its address; a serving with one more spare, with one need less. -/
import Derived.Test.YthbkimojbbkeiaaSvG3
namespace Go.Proofs.Ythbkimojbbkeiaa
open Go.RowKit

theorem run_append_zero {w : World} {B c k : Nat} {v : Value} {ys : List Int} {ty : TypeId} (hown : OwP w B v ys c) :
    (Builtin.append_ #[25, 25] ty #[v, .slice none 0 k]).run Try.prog w = .ok v w := by
  obtain ⟨i, hi, hz, hsz, hb⟩ := info_parts infoSpareD
  rcases hown.2 with ⟨rfl, rfl⟩ | ⟨g, cap, cur, rfl, _, _, hnc, _⟩
  · simp [Builtin.append_, run_underlying Try.underlying25, sizeOf, typeInfo, hi, Builtin.lenOf, Builtin.firstCells]
  · simp [Builtin.append_, run_underlying Try.underlying25, sizeOf, typeInfo, hi, Builtin.lenOf, Builtin.firstCells, hnc, storeCells]
theorem wpList_appS {ops : Array Oper} {rest : List Oper} {o : Oper} {a : Act} {Q : Exit → Act → World → Prop} {w : World} {B c d hi : Nat} {v sv : Value} {ys zs : List Int} {s x : Operand} (hown : OwP w B v ys c) (hsl : SlF 2 w hi sv zs d) (hgd : o.guard = none)
    (ho : o.op = .call { callee := .builtin .append, args := #[s, x], argTypes := #[25, 25] })
    (hs : a.eval s = v) (hx : a.eval x = sv) (hlen : c ≤ 1048576) (hlen2 : d ≤ 1048576) (hB : B ≤ w.heap.size)
    (h : ∀ v' w', OwP w' B v' (ys ++ zs) (c + d) → Below B w w' → wpList Try.prog ops Q rest (a.put o.dst v') w') :
    wpList Try.prog ops Q (o :: rest) a w := by
  by_cases h0 : 0 < d
  · exact wpList_appP hown (hsl.src h0) hgd ho hs hx hlen hlen2 hB h
  · obtain ⟨p, k, rfl, hl, -⟩ := hsl
    obtain rfl : d = 0 := by omega
    obtain rfl : zs = [] := List.eq_nil_of_length_eq_zero (by omega)
    cases p with
    | none =>
      refine wpList_plain hgd fun K hK => ?_
      have hrun := run_append_zero (k := k) (ty := o.type) hown
      unfold Oper.wp
      simp [execOp, ho, resolve, invoke, builtin, hs, hx, hrun, Result.andThen]
      exact hK _ _ (h v w (by rw [List.append_nil]; exact hown) (Below.refl _ _))
    | some ad =>
      obtain ⟨i, hi, hz, hsz, hb⟩ := info_parts infoSpareD
      refine wpList_append_own w hgd s x 25 ho B 35 i (.agg #[.int .i64 0, .int .i64 0]) 2 16 Try.underlying25 hi hz hsz hb rfl (by decide) v c _ hs hown ad 0 k [] hx rfl (fun j u hj => by simp at hj) (fun u hu => by cases hu) ?_ ?_ hB ?_
      · unfold maxLen; omega
      · omega
      · intro v' w' h1 h2 _
        refine h v' w' ?_ ?_
        · unfold OwP
          rw [List.map_append]
          exact h1
        · exact (Below.refl B w).grown h2 hB (fun k hk => (hown.lt k hk).1)

theorem app_at {cs : List Int} {n k : Nat} (h : cs.length = n * 2) (hk : k < n) (xs : List Int) : smi (cs ++ xs) k = smi cs k ∧ ski (cs ++ xs) k = ski cs k := by
  unfold smi ski
  rw [gi_app_left (by omega), gi_app_left (by omega)]
  exact ⟨rfl, rfl⟩
/-- One more spare serves as well. -/
theorem sc_more {cs ds : List Int} {n m : Nat} (h : scB cs n ds m = true) (hl : cs.length = n * 2) (hn : n + 1 ≤ 10) : scB (cs ++ [1, 3]) (n + 1) ds m = true := by
  obtain ⟨hb, -, -, -⟩ := best_of_sc h
  obtain ⟨h1, h2⟩ := svB_mem.1 hb
  have h3 := both_bd h1
  refine (sv_can (sv := sbL cs n ds m) (svB_mem.2 ⟨both_of hn ?_ h3.2.1 h3.2.2, ?_⟩)).1
  · intro i hi
    unfold spOk
    by_cases e : i = n
    · subst e
      have e1 : smi (cs ++ [1, 3]) i = 1 ∧ ski (cs ++ [1, 3]) i = 3 := by
        unfold smi ski gi
        rw [List.getElem?_append_right (by omega), List.getElem?_append_right (by omega), hl, show i * 2 - i * 2 = 0 by omega, show i * 2 + 1 - i * 2 = 1 by omega]
        exact ⟨rfl, rfl⟩
      rw [e1.1, e1.2]; omega
    · obtain ⟨e1, e2⟩ := app_at hl (show i < n by omega) [1, 3]
      rw [e1, e2]
      exact h3.1.2 i (by omega)
  · obtain ⟨h4, h5⟩ := mem_all.1 h2
    refine mem_all.2 ⟨h4, fun x hx => ?_⟩
    obtain ⟨k, hk, h6, h7⟩ := h5 x hx
    refine ⟨k, by omega, h6, ?_⟩
    unfold okAt at h7 ⊢
    rw [(app_at hl hk [1, 3]).1, (app_at hl hk [1, 3]).2]
    exact h7
theorem gi_erase {xs : List Int} {k i : Nat} : gi (xs.eraseIdx k) i = if i < k then gi xs i else gi xs (i + 1) := by
  unfold gi
  rw [List.getElem?_eraseIdx]
  split <;> rfl
/-- One need less is served as well. -/
theorem sc_less {cs ds : List Int} {n m k : Nat} (h : scB cs n ds m = true) (hl : ds.length = m * 2) (hk : k < m) : scB cs n (del ds k) (m - 1) = true := by
  obtain ⟨hb, -, -, -⟩ := best_of_sc h
  obtain ⟨h1, h2⟩ := svB_mem.1 hb
  have h3 := both_bd h1
  obtain ⟨h4, h5⟩ := mem_all.1 h2
  revert h4 h5
  generalize sbL cs n ds m = s
  intro h4 h5
  refine (sv_can (sv := s.eraseIdx k) (svB_mem.2 ⟨both_of h3.1.1 h3.1.2 (by omega) (spTo_del hl hk h3.2.2), ?_⟩)).1
  have hl2 : (s.eraseIdx k).length = m - 1 := by rw [List.length_eraseIdx, if_pos (by omega)]; omega
  have key : ∀ x, x < m → (0 ≤ gi s x ∧ gi s x < n) ∧ (∀ y, y < x → gi s y ≠ gi s x) ∧ ski cs (gi s x).toNat = ski ds x ∧ smi ds x ≤ smi cs (gi s x).toNat := fun x hx => (vAt_iff (by omega)).1 (h5 x hx)
  refine mem_all.2 ⟨hl2, fun x hx => (vAt_iff (by omega)).2 ?_⟩
  rw [gi_erase, (del_at hl hk).1, (del_at hl hk).2]
  by_cases hx2 : x < k
  · simp only [if_pos hx2]
    obtain ⟨k1, k2, k3⟩ := key x (by omega)
    refine ⟨k1, fun y hy => ?_, k3⟩
    rw [gi_erase, if_pos (by omega)]
    exact k2 y hy
  · simp only [if_neg hx2]
    obtain ⟨k1, k2, k3⟩ := key (x + 1) (by omega)
    refine ⟨k1, fun y hy => ?_, k3⟩
    rw [gi_erase]
    split
    · exact k2 y (by omega)
    · exact k2 (y + 1) (by omega)

end Go.Proofs.Ythbkimojbbkeiaa
