/- Plain: what SparesTake answers. -/
import Derived.Test.YthbkimojbbkeiaaSpPlain
namespace Go.Proofs.Ythbkimojbbkeiaa

/-- Miles may be taken off spare k. -/
def tkB (cs : List Int) (n : Nat) (k miles : Int) : Bool := spB 10 cs n && (inB k 0 ((n : Int) - 1) && inB miles 1 (smi cs k.toNat))
/-- What is left, and how many. -/
def tkL (cs : List Int) (n : Nat) (k miles : Int) : List Int :=
  if tkB cs n k miles then (if miles < smi cs k.toNat then cs.take (k.toNat * 2) ++ [smi cs k.toNat - miles, ski cs k.toNat] ++ cs.drop ((k.toNat + 1) * 2) else cs.take (k.toNat * 2) ++ cs.drop ((k.toNat + 1) * 2)) else []
def tkN (cs : List Int) (n : Nat) (k miles : Int) : Nat :=
  if tkB cs n k miles then (if miles < smi cs k.toNat then 0 + k.toNat + 1 + (n - (k.toNat + 1)) else 0 + k.toNat + (n - (k.toNat + 1))) else 0
theorem tk_no {cs : List Int} {n : Nat} {k miles : Int} (h : tkB cs n k miles = false) : tkB cs n k miles = false ∧ tkL cs n k miles = [] ∧ tkN cs n k miles = 0 := by simp [tkL, tkN, h]

end Go.Proofs.Ythbkimojbbkeiaa
