/- Plain facts: orders without a coil are orders, and other coils agree as before. -/
import Derived.Test.YtldjnfcdmhcjdaaOrd3
namespace Go.Proofs.Ytldjnfcdmhcjdaa

def skp (i a : Nat) : Nat := if a < i then a else a + 1
theorem dropV_lt {xs : List Int} {i x y : Nat} (hx : gi xs x ≠ gi xs i) (hy : gi xs y ≠ gi xs i) : dropV xs i x < dropV xs i y ↔ gi xs x < gi xs y := by
  unfold dropV
  split <;> split <;> omega

theorem drop_len {xs : List Int} {i : Nat} (hi : i < xs.length) : (dropTo xs i xs.length).length = xs.length - 1 := by
  rw [dropTo_len, if_pos hi]
theorem drop_gi {xs : List Int} {i a : Nat} (hi : i < xs.length) (ha : a < xs.length - 1) : gi (dropTo xs i xs.length) a = dropV xs i (skp i a) :=
  dropTo_gi xs i xs.length a (by rw [drop_len hi]; exact ha)
theorem skp_ne {i a : Nat} : skp i a ≠ i := by unfold skp; split <;> omega
theorem skp_lt {i a n : Nat} (h : a < n - 1) (hi : i < n) : skp i a < n := by unfold skp; split <;> omega
theorem skp_mono {i a b : Nat} : skp i a < skp i b ↔ a < b := by unfold skp; split <;> split <;> omega

theorem drop_ord {xs : List Int} {i : Nat} (h : ordB xs = true) (hi : i < xs.length) : ordB (dropTo xs i xs.length) = true := by
  have hl := (ordB_true.1 h).1
  have hui := ordB_in h hi
  refine ordB_true.2 ⟨by rw [drop_len hi]; omega, ?_⟩
  rw [drop_len hi]
  intro k hk
  have hks := skp_lt hk hi
  have hkn := ordB_ne h hks hi skp_ne
  have hki := ordB_in h hks
  rw [drop_gi hi hk]
  refine ⟨?_, fun j hj => ?_⟩
  · rw [drop_len hi]
    unfold dropV
    split <;> omega
  · rw [drop_gi hi (by omega)]
    have hjs := skp_lt (show j < xs.length - 1 by omega) hi
    have hjn := ordB_ne h hjs hi skp_ne
    have hjk := ordB_ne h hjs hks (by have := (skp_mono (i := i)).2 hj; omega)
    unfold dropV
    split <;> split <;> omega

theorem drop_agree {xs : List Int} {i : Nat} (h : ordB xs = true) (hi : i < xs.length) {a b : Nat} (ha : a < xs.length - 1) (hb : b < a) :
    agreeB (dropTo xs i xs.length) a b = agreeB xs (skp i a) (skp i b) := by
  have hd := drop_ord h hi
  have hsa := skp_lt ha hi
  have hsb := skp_lt (show b < xs.length - 1 by omega) hi
  have hm := (skp_mono (i := i)).2 hb
  have e1 : inB (a : Int) 0 (((dropTo xs i xs.length).length : Int) - 1) = true := inB_true.2 ⟨by omega, by rw [drop_len hi]; omega⟩
  have e2 : inB (b : Int) 0 (((dropTo xs i xs.length).length : Int) - 1) = true := inB_true.2 ⟨by omega, by rw [drop_len hi]; omega⟩
  have e3 : inB (skp i a : Int) 0 ((xs.length : Int) - 1) = true := inB_true.2 ⟨by omega, by omega⟩
  have e4 : inB (skp i b : Int) 0 ((xs.length : Int) - 1) = true := inB_true.2 ⟨by omega, by omega⟩
  have e5 : ((a : Int) != (b : Int)) = true := by rw [bne_iff_ne]; omega
  have e6 : ((skp i a : Int) != (skp i b : Int)) = true := by rw [bne_iff_ne]; omega
  have hx := ordB_ne h hsa hi skp_ne
  have hy := ordB_ne h hsb hi skp_ne
  have key : agrB (dropTo xs i xs.length) a b = agrB xs (skp i a) (skp i b) := by
    unfold agrB
    congr 1
    · rw [decide_eq_decide]; omega
    · rw [decide_eq_decide, drop_gi hi ha, drop_gi hi (by omega)]; exact dropV_lt hy hx
  simp only [agreeB, hd, h, e1, e2, e3, e4, e5, e6, Bool.true_and, Int.toNat_natCast]
  exact key

theorem skp_of {i a : Nat} : (skp i a : Int) = if (i : Int) ≤ (a : Int) then (a : Int) + 1 else (a : Int) := by unfold skp; split <;> split <;> omega

end Go.Proofs.Ytldjnfcdmhcjdaa
