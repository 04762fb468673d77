/- Plain: lists of spares without one of them; taking one out, once more and for the first need. -/
import Derived.Test.YthbkimojbbkeiaaApP
namespace Go.Proofs.Ythbkimojbbkeiaa

theorem spTo_del {cs : List Int} {n k : Nat} (hl : cs.length = n * 2) (hk : k < n) (h : spTo cs n) : spTo (del cs k) (n - 1) := fun i hi => by
  obtain ⟨e1, e2⟩ := del_at (i := i) hl hk
  unfold spOk
  rw [e1, e2]
  by_cases hik : i < k
  · rw [if_pos hik, if_pos hik]; exact h i (by omega)
  · rw [if_neg hik, if_neg hik]; exact h (i + 1) (by omega)
theorem tail_at {ds : List Int} {i : Nat} : smi (ds.drop 2) i = smi ds (i + 1) ∧ ski (ds.drop 2) i = ski ds (i + 1) := by
  unfold smi ski gi
  rw [List.getElem?_drop, List.getElem?_drop, show 2 + i * 2 = (i + 1) * 2 by omega, show 2 + (i * 2 + 1) = (i + 1) * 2 + 1 by omega]
  exact ⟨rfl, rfl⟩
theorem spTo_tail {ds : List Int} {m : Nat} (h : spTo ds (m + 1)) : spTo (ds.drop 2) m := fun i hi => by
  unfold spOk
  rw [tail_at.1, tail_at.2]
  exact h (i + 1) (by omega)
theorem both_of {cs ds : List Int} {n m : Nat} (h1 : n ≤ 10) (h2 : spTo cs n) (h3 : m ≤ 5) (h4 : spTo ds m) : bothB cs n ds m = true := by
  unfold bothB
  rw [Bool.and_eq_true, spB_true, spB_true]
  exact ⟨⟨by omega, h2⟩, by omega, h4⟩
/-- What the law of counting adds up. -/
def fstTo (cs ds : List Int) (n m k : Nat) : Nat := sumN (fun k => if srB (smi cs k) (ski cs k) (smi ds 0) (ski ds 0) then manyI (del cs k) (ds.drop 2) (n - 1) m [] else 0) k
theorem fstTo_yes {cs ds : List Int} {n m k : Nat} (h : srB (smi cs k) (ski cs k) (smi ds 0) (ski ds 0) = true) : fstTo cs ds n m (k + 1) = fstTo cs ds n m k + manyI (del cs k) (ds.drop 2) (n - 1) m [] := by
  unfold fstTo
  rw [sumN, if_pos h]
theorem fstTo_no {cs ds : List Int} {n m k : Nat} (h : srB (smi cs k) (ski cs k) (smi ds 0) (ski ds 0) = false) : fstTo cs ds n m (k + 1) = fstTo cs ds n m k := by
  unfold fstTo
  rw [sumN, h]; simp
theorem fstTo_bd {cs ds : List Int} {n m : Nat} (hn : n ≤ 10) (hm : m ≤ 5) : ∀ {k : Nat}, fstTo cs ds n m k ≤ k * 100000
  | 0 => by simp [fstTo, sumN]
  | k + 1 => by
    have h1 := fstTo_bd (cs := cs) (ds := ds) hn hm (k := k)
    have h2 := many_bd5 (cs := del cs k) (ds := ds.drop 2) (n := n - 1) (d := m) (p := []) (by omega) hm
    cases h : srB (smi cs k) (ski cs k) (smi ds 0) (ski ds 0) with
    | false => have := fstTo_no (n := n) (m := m) h; omega
    | true => have := fstTo_yes (n := n) (m := m) h; omega

end Go.Proofs.Ythbkimojbbkeiaa
