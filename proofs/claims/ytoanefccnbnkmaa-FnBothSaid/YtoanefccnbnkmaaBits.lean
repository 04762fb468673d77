/- Bit operations on int at numbers that are not negative; a set of small numbers as a mask. -/
import Derived.Test.YtoanefccnbnkmaaPlain
import Derived.WalkKit
namespace Go.Proofs.Ytoanefccnbnkmaa
open Go.RowKit

theorem ofInt_i64 (a : Nat) (ha : a < 9223372036854775808) : (BitVec.ofInt IntKind.i64.bits (a : Int)).toNat = a := by
  have := ofInt_u64 a (by omega)
  exact this

theorem wrap_i64_nat (a : Nat) (ha : a < 9223372036854775808) : IntKind.i64.wrap (a : Int) = a := by
  rw [IntKind.wrap_i64]; omega

theorem i64_and (a b : Nat) (ha : a < 9223372036854775808) (hb : b < 9223372036854775808) : bits .and .i64 (a : Int) (b : Int) = ((a &&& b : Nat) : Int) := by
  show IntKind.i64.wrap (((BitVec.ofInt IntKind.i64.bits (a : Int)) &&& (BitVec.ofInt IntKind.i64.bits (b : Int))).toNat : Int) = _
  rw [BitVec.toNat_and, ofInt_i64 a ha, ofInt_i64 b hb]
  exact wrap_i64_nat _ (Nat.lt_of_le_of_lt Nat.and_le_left ha)

theorem i64_or (a b : Nat) (ha : a < 4611686018427387904) (hb : b < 4611686018427387904) : bits .or .i64 (a : Int) (b : Int) = ((a ||| b : Nat) : Int) := by
  show IntKind.i64.wrap (((BitVec.ofInt IntKind.i64.bits (a : Int)) ||| (BitVec.ofInt IntKind.i64.bits (b : Int))).toNat : Int) = _
  rw [BitVec.toNat_or, ofInt_i64 a (by omega), ofInt_i64 b (by omega)]
  have := Nat.or_lt_two_pow (x := a) (y := b) (n := 62) (by omega) (by omega)
  exact wrap_i64_nat _ (by omega)

theorem i64_xor (a b : Nat) (ha : a < 4611686018427387904) (hb : b < 4611686018427387904) : bits .xor .i64 (a : Int) (b : Int) = ((a ^^^ b : Nat) : Int) := by
  show IntKind.i64.wrap (((BitVec.ofInt IntKind.i64.bits (a : Int)) ^^^ (BitVec.ofInt IntKind.i64.bits (b : Int))).toNat : Int) = _
  rw [BitVec.toNat_xor, ofInt_i64 a (by omega), ofInt_i64 b (by omega)]
  have := Nat.xor_lt_two_pow (x := a) (y := b) (n := 62) (by omega) (by omega)
  exact wrap_i64_nat _ (by omega)

/-- 'm >> t & 1 == 1' asks whether t is in the set m. -/
theorem bit_test (m t : Nat) (hm : m < 1024) : (bits .and .i64 ((m : Int) / 2 ^ t) 1 == 1) = m.testBit t := by
  have e : (m : Int) / 2 ^ t = ((m / 2 ^ t : Nat) : Int) := by
    rw [Int.natCast_ediv, Int.natCast_pow]; rfl
  have hle : m / 2 ^ t ≤ m := Nat.div_le_self _ _
  rw [e, show (1 : Int) = ((1 : Nat) : Int) from rfl, i64_and _ _ (by omega) (by omega), Nat.and_one_is_mod, Nat.testBit_eq_decide_div_mod_eq]
  rw [Bool.eq_iff_iff]
  simp only [beq_iff_eq, decide_eq_true_eq]
  omega

/-- 'm |= 1 << t' puts t into the set. -/
theorem bit_set (m t : Nat) (hm : m < 1024) (ht : t ≤ 9) : bits .or .i64 (m : Int) (wrap64 (2 ^ t)) = ((m ||| 2 ^ t : Nat) : Int) ∧ m ||| 2 ^ t < 1024 := by
  have hp : 2 ^ t < 2 ^ 10 := Nat.pow_lt_pow_right (by omega) (by omega)
  have e : wrap64 (2 ^ t) = ((2 ^ t : Nat) : Int) := by
    have : (2 : Int) ^ t = ((2 ^ t : Nat) : Int) := by rw [Int.natCast_pow]; rfl
    rw [this]
    revert hp
    generalize 2 ^ t = p
    intro hp
    exact IntWalk.wrap64_in _ ⟨by omega, by omega⟩
  rw [e, i64_or _ _ (by omega) (by omega)]
  exact ⟨rfl, Nat.or_lt_two_pow (n := 10) (by omega) (by omega)⟩

theorem bit_mem (m t u : Nat) : (m ||| 2 ^ t).testBit u = (m.testBit u || decide (t = u)) := by
  rw [Nat.testBit_or, Nat.testBit_two_pow]

end Go.Proofs.Ytoanefccnbnkmaa
