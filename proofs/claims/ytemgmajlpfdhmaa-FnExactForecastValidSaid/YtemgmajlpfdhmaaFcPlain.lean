/- Plain facts: forecasts as texts and as masks; nothing of the program. -/
import Derived.Lib.BitFns
import Derived.WalkKit
namespace Go.Proofs.Ytemgmajlpfdhmaa
open Go.RowKit

def inB (n a b : Int) : Bool := decide (a ≤ n) && decide (n ≤ b)
theorem inB_true {n a b : Int} : inB n a b = true ↔ a ≤ n ∧ n ≤ b := by simp [inB]

/-- The byte at k. -/
def ch (s : ByteArray) (k : Nat) : Int := (((s[k]?).getD 0).toNat : Int)
theorem ch_eq {s : ByteArray} {k : Nat} (h : k < s.size) : ((s[k].toNat : Nat) : Int) = ch s k := by simp [ch, ByteArray.getElem?_lt' s k h]

def okTo (s : ByteArray) (k : Nat) : Prop := ∀ j, j < k → ch s j = 111 ∨ ch s j = 120
instance (s : ByteArray) (k : Nat) : Decidable (okTo s k) := by unfold okTo; exact inferInstance
def fcB (s : ByteArray) : Bool := decide (okTo s s.size) && decide (s.size ≤ 30)
theorem fcB_true {s : ByteArray} : fcB s = true ↔ okTo s s.size ∧ s.size ≤ 30 := by simp [fcB]
theorem fcB_no_at {s : ByteArray} {k : Nat} (hk : k < s.size) (h1 : ch s k ≠ 111) (h2 : ch s k ≠ 120) : fcB s = false := by
  simp only [fcB, Bool.and_eq_false_iff, decide_eq_false_iff_not]
  left
  intro h
  rcases h k hk with h | h
  · exact h1 h
  · exact h2 h
theorem fcB_no_long {s : ByteArray} (h : 30 < s.size) : fcB s = false := by
  simp only [fcB, Bool.and_eq_false_iff, decide_eq_false_iff_not]
  right; omega
theorem fcB_all {s : ByteArray} (h : okTo s s.size) : fcB s = decide (s.size ≤ 30) := by simp [fcB, h]
theorem okTo_succ {s : ByteArray} {k : Nat} (h : okTo s k) (h1 : ch s k = 111 ∨ ch s k = 120) : okTo s (k + 1) := fun j hj => by
  by_cases e : j = k
  · subst e; exact h1
  · exact h j (by omega)

/-- How many of the first k days are open. -/
def opn (s : ByteArray) : Nat → Nat
  | 0 => 0
  | k + 1 => opn s k + if ch s k = 111 then 1 else 0
theorem opn_le (s : ByteArray) : ∀ k, opn s k ≤ k
  | 0 => Nat.le_refl _
  | k + 1 => by have := opn_le s k; simp only [opn]; split <;> omega

/-- The mask of the open days among the first k. -/
def msk (s : ByteArray) : Nat → Nat
  | 0 => 0
  | k + 1 => msk s k + if ch s k = 111 then 2 ^ k else 0
theorem msk_lt (s : ByteArray) : ∀ k, msk s k < 2 ^ k
  | 0 => by simp [msk]
  | k + 1 => by have := msk_lt s k; simp only [msk, Nat.pow_succ]; split <;> omega
theorem msk_mod (s : ByteArray) (d : Nat) : ∀ e, msk s (d + e) % 2 ^ d = msk s d
  | 0 => Nat.mod_eq_of_lt (msk_lt s d)
  | e + 1 => by
    have h := msk_mod s d e
    show (msk s (d + e) + if ch s (d + e) = 111 then 2 ^ (d + e) else 0) % 2 ^ d = _
    split
    · rw [Nat.pow_add, Nat.add_mul_mod_self_left, h]
    · exact h

theorem pop_split (n : Nat) : ∀ f x, Lib.popAux (n + f) x = Lib.popAux n (x % 2 ^ n) + Lib.popAux f (x / 2 ^ n) := by
  induction n with
  | zero => intro f x; simp [Lib.popAux]
  | succ n ih =>
    intro f x
    rw [show n + 1 + f = (n + f) + 1 by omega]
    simp only [Lib.popAux]
    rw [ih f (x / 2)]
    have hp : 0 < 2 ^ n := Nat.two_pow_pos n
    have e1 : x % 2 ^ (n + 1) % 2 = x % 2 := by rw [Nat.pow_succ, Nat.mod_mod_of_dvd _ (Nat.dvd_mul_left 2 _)]
    have e2 : x % 2 ^ (n + 1) / 2 = x / 2 % 2 ^ n := by rw [Nat.pow_succ, Nat.mul_comm, Nat.mod_mul_right_div_self]
    have e3 : x / 2 / 2 ^ n = x / 2 ^ (n + 1) := by rw [Nat.div_div_eq_div_mul, Nat.pow_succ, Nat.mul_comm]
    rw [e1, e2, e3]
    omega

theorem pop_zero : ∀ f, Lib.popAux f 0 = 0
  | 0 => rfl
  | f + 1 => by simp [Lib.popAux, pop_zero f]

theorem pop_set : ∀ k f x, x < 2 ^ k → k < f → Lib.popAux f (x + 2 ^ k) = Lib.popAux f x + 1
  | 0, f + 1, x, h, _ => by
    have : x = 0 := by simpa using h
    subst this
    simp [Lib.popAux, pop_zero]
  | k + 1, f + 1, x, h, hf => by
    have hp : 2 ^ (k + 1) = 2 * 2 ^ k := by rw [Nat.pow_succ, Nat.mul_comm]
    simp only [Lib.popAux]
    rw [show (x + 2 ^ (k + 1)) % 2 = x % 2 by omega, show (x + 2 ^ (k + 1)) / 2 = x / 2 + 2 ^ k by omega, pop_set k f (x / 2) (by omega) (by omega)]
    omega
  | _, 0, _, _, h => by omega

theorem pop_msk (s : ByteArray) (f : Nat) : ∀ k, k ≤ f → Lib.popAux f (msk s k) = opn s k
  | 0, _ => by simp [msk, opn, pop_zero]
  | k + 1, h => by
    have ih := pop_msk s f k (by omega)
    simp only [msk, opn]
    split
    · rw [pop_set k f _ (msk_lt s k) (by omega), ih]
    · simpa using ih

/-- The four bytes' bits. -/
theorem pop32 (x : Nat) (h : x < 4294967296) : Lib.popAux 64 x = Lib.popAux 8 (x % 256) + (Lib.popAux 8 (x / 256 % 256) + (Lib.popAux 8 (x / 65536 % 256) + Lib.popAux 8 (x / 16777216))) := by
  rw [show (64 : Nat) = 8 + 56 from rfl, pop_split 8 56 x, show (56 : Nat) = 8 + 48 from rfl, pop_split 8 48, show (48 : Nat) = 8 + 40 from rfl, pop_split 8 40, show (40 : Nat) = 8 + 32 from rfl, pop_split 8 32]
  have e : x / 2 ^ 8 / 2 ^ 8 / 2 ^ 8 = x / 16777216 := by omega
  have e2 : x / 2 ^ 8 / 2 ^ 8 = x / 65536 := by omega
  have e3 : x / 16777216 % 2 ^ 8 = x / 16777216 := by omega
  have e4 : x / 16777216 / 2 ^ 8 = 0 := by omega
  rw [e, e3, e4, e2, pop_zero]
  rfl

theorem popAux8_64 : ∀ n : Fin 256, Lib.popAux 8 n.val = Lib.onesCount n.val := by decide +kernel
/-- The table's byte. -/
theorem pop8_nat (n : Nat) (h : n < 256) : Lib.pop8 (n : Int) = (Lib.popAux 8 n : Int) := by
  have := Lib.pop8_eq ⟨n, h⟩
  rw [popAux8_64 ⟨n, h⟩]
  exact this
theorem pop8_le (n : Nat) (h : n < 256) : Lib.popAux 8 n ≤ 8 := by
  rw [popAux8_64 ⟨n, h⟩]
  exact Lib.onesCount_le8 ⟨n, h⟩

end Go.Proofs.Ytemgmajlpfdhmaa
