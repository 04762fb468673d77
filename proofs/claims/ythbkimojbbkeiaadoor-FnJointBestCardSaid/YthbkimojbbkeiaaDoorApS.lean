/- append of a list of spares whatever its address. -/
import Derived.Test.YthbkimojbbkeiaaDoorApP
namespace Go.Proofs.YthbkimojbbkeiaaDoor
open Go.RowKit

theorem run_append_zero {w : World} {B c k : Nat} {v : Value} {ys : List Int} {ty : TypeId} (hown : OwP w B v ys c) :
    (Builtin.append_ #[23, 23] ty #[v, .slice none 0 k]).run Tryd.prog w = .ok v w := by
  obtain ⟨i, hi, hz, hsz, hb⟩ := info_parts infoSpareD
  rcases hown.2 with ⟨rfl, rfl⟩ | ⟨g, cap, cur, rfl, _, _, hnc, _⟩
  · simp [Builtin.append_, run_underlying Tryd.underlying23, sizeOf, typeInfo, hi, Builtin.lenOf, Builtin.firstCells]
  · simp [Builtin.append_, run_underlying Tryd.underlying23, sizeOf, typeInfo, hi, Builtin.lenOf, Builtin.firstCells, hnc, storeCells]
theorem wpList_appS {ops : Array Oper} {rest : List Oper} {o : Oper} {a : Act} {Q : Exit → Act → World → Prop} {w : World} {B c d hi : Nat} {v sv : Value} {ys zs : List Int} {s x : Operand} (hown : OwP w B v ys c) (hsl : SlF 2 w hi sv zs d) (hgd : o.guard = none)
    (ho : o.op = .call { callee := .builtin .append, args := #[s, x], argTypes := #[23, 23] })
    (hs : a.eval s = v) (hx : a.eval x = sv) (hlen : c ≤ 1048576) (hlen2 : d ≤ 1048576) (hB : B ≤ w.heap.size)
    (h : ∀ v' w', OwP w' B v' (ys ++ zs) (c + d) → Below B w w' → wpList Tryd.prog ops Q rest (a.put o.dst v') w') :
    wpList Tryd.prog ops Q (o :: rest) a w := by
  by_cases h0 : 0 < d
  · exact wpList_appP hown (hsl.src h0) hgd ho hs hx hlen hlen2 hB h
  · obtain ⟨p, k, rfl, hl, -⟩ := hsl
    obtain rfl : d = 0 := by omega
    obtain rfl : zs = [] := List.eq_nil_of_length_eq_zero (by omega)
    cases p with
    | none =>
      refine wpList_plain hgd fun K hK => ?_
      have hrun := run_append_zero (k := k) (ty := o.type) hown
      unfold Oper.wp
      simp [execOp, ho, resolve, invoke, builtin, hs, hx, hrun, Result.andThen]
      exact hK _ _ (h v w (by rw [List.append_nil]; exact hown) (Below.refl _ _))
    | some ad =>
      obtain ⟨i, hi, hz, hsz, hb⟩ := info_parts infoSpareD
      refine wpList_append_own w hgd s x 23 ho B 30 i (.agg #[.int .i64 0, .int .i64 0]) 2 16 Tryd.underlying23 hi hz hsz hb rfl (by decide) v c _ hs hown ad 0 k [] hx rfl (fun j u hj => by simp at hj) (fun u hu => by cases hu) ?_ ?_ hB ?_
      · unfold maxLen; omega
      · omega
      · intro v' w' h1 h2 _
        refine h v' w' ?_ ?_
        · unfold OwP
          rw [List.map_append]
          exact h1
        · exact (Below.refl B w).grown h2 hB (fun k hk => (hown.lt k hk).1)

end Go.Proofs.YthbkimojbbkeiaaDoor
