/- Appending a list as one step of a region that draws its order; cuts of a list that an append reads. -/
import Derived.Test.YtldjnfcdmhcjdaaApp
import Derived.Deep.RegionLaw
namespace Go.Proofs.Ytldjnfcdmhcjdaa
open Go.RowKit

theorem Src.old {w w' : World} {v : Value} {zs : List Int} (h : Src w v zs) (hb : Below w.heap.size w w') : Src w' v zs := by
  rcases h with h | ⟨b, off, c, e, hc⟩
  · exact .inl h
  · exact .inr ⟨b, off, c, e, fun k hk => (hb.cell (p := ⟨b, off + k, none⟩) (World.block_lt_of_cell? w _ (hc k hk))).trans (hc k hk)⟩
theorem Src.drewN {w : World} {v : Value} {zs : List Int} (h : Src w v zs) (n : Nat) : Src (w.drewN n) v zs := h

theorem step_app {ops : Array Oper} {o : Oper} {a : Act} {K : Act → World → Prop} {Q : Exit → Act → World → Prop} {E : Prop} {w : World} {B : Nat} {v sv : Value} {ys zs : List Int} (s x : Operand) (hown : OwI w B v ys) (hsrc : Src w sv zs) (hgd : o.guard = none)
    (ho : o.op = .call { callee := .builtin .append, args := #[s, x], argTypes := #[22, 22] })
    (hs : a.eval s = v) (hx : a.eval x = sv) (hlen : ys.length ≤ 1048576) (hlen2 : zs.length ≤ 1048576) (hB : B ≤ w.heap.size)
    (h : ∀ v' w', OwI w' B v' (ys ++ zs) → Below B w w' → K (a.put o.dst v') w') :
    if Region.wanted o (yielded ops a.tmps) = true then Oper.wp Try.prog o a w K Q else E := by
  have hw : Region.wanted o (yielded ops a.tmps) = true := by simp [Region.wanted, hgd]
  rw [if_pos hw]
  obtain ⟨i, hi, hz, hsz, hb⟩ := info_parts infoInt
  rcases hsrc with ⟨rfl, rfl⟩ | ⟨b, off, c, rfl, hc⟩
  · have hrun := run_append_owned_none (P := Try.prog) (w := w) B 22 o.type 3 i 1 Try.underlying22 hi v ys.length _ hown
    unfold Oper.wp
    simp [execOp, ho, resolve, invoke, builtin, hs, hx, hrun, Result.andThen]
    exact h v w (by rw [List.append_nil]; exact hown) (Below.refl _ _)
  · refine wp_append_own w s x 22 ho B 3 i (.int .i64 0) 1 8 Try.underlying22 hi hz hsz hb rfl (by decide) v ys.length _ hs hown ⟨b, off, none⟩ zs.length c (zs.map (Value.int .i64)) hx (by simp) ?_ ?_ ?_ ?_ hB ?_
    · intro j u hj
      rw [List.getElem?_map] at hj
      have hjl : j < zs.length := by
        cases e : zs[j]? with
        | none => rw [e] at hj; cases hj
        | some z => exact (List.getElem?_eq_some_iff.1 e).1
      have ea : (⟨b, off, none⟩ : Addr).add j = ⟨b, off + j, none⟩ := by unfold Addr.add; split <;> simp_all
      rw [ea, hc j hjl]
      simp only [List.getElem?_eq_getElem hjl, Option.map_some] at hj
      rw [gi_eq hjl]; exact hj
    · intro u hu
      rw [List.mem_map] at hu
      obtain ⟨z, _, rfl⟩ := hu
      rfl
    · unfold maxLen; omega
    · omega
    · intro v' w' h1 h2 _
      refine h v' w' ?_ ?_
      · unfold OwI
        rw [List.length_append, List.map_append]
        exact h1
      · exact (Below.refl B w).grown h2 hB (fun k hk => (hown.lt k hk).1)

/-- A slice cut at its first k, and the rest behind the place k. -/
theorem src_take {w : World} {b off n cap k : Nat} {ts : List Int} (hl : ts.length = n) (hk : k ≤ n) (hc : ∀ j, j < n → w.cell? ⟨b, off + j, none⟩ = some (.int .i64 (gi ts j))) :
    Src w (.slice (some ⟨b, off, none⟩) k cap) (ts.take k) := by
  have e : (ts.take k).length = k := by simp; omega
  refine .inr ⟨b, off, cap, by rw [e], fun j hj => ?_⟩
  rw [e] at hj
  rw [hc j (by omega)]
  simp [gi, hj]
theorem src_drop {w : World} {b off n cap k : Nat} {ts : List Int} (hl : ts.length = n) (hk : k ≤ n) (hc : ∀ j, j < n → w.cell? ⟨b, off + j, none⟩ = some (.int .i64 (gi ts j))) :
    Src w (.slice (some ⟨b, off + k, none⟩) (n - k) cap) (ts.drop k) := by
  have e : (ts.drop k).length = n - k := by simp; omega
  refine .inr ⟨b, off + k, cap, by rw [e], fun j hj => ?_⟩
  rw [e] at hj
  rw [Nat.add_assoc, hc (k + j) (by omega)]
  simp [gi]

theorem src_drop2 {w : World} {b off n cap k : Nat} {ts : List Int} (hl : ts.length = n) (hk : k ≤ n) (hn : n ≤ cap) (hc : ∀ j, j < n → w.cell? ⟨b, off + j, none⟩ = some (.int .i64 (gi ts j))) :
    Src w (.slice (if cap = k then some ⟨b, off, none⟩ else some ⟨b, off + k, none⟩) (n - k) (cap - k)) (ts.drop k) := by
  by_cases e : cap = k
  · rw [if_pos e]
    have hz : ts.drop k = [] := List.drop_eq_nil_of_le (by omega)
    rw [hz]
    exact .inr ⟨b, off, cap - k, by simp; omega, fun j hj => absurd hj (by simp)⟩
  · rw [if_neg e]
    exact src_drop hl hk hc

end Go.Proofs.Ytldjnfcdmhcjdaa
