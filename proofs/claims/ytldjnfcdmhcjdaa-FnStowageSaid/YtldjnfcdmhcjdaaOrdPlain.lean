/- Plain facts on orders, stowages and coils; nothing of the program. -/
import Derived.Test.YtldjnfcdmhcjdaaPlain
namespace Go.Proofs.Ytldjnfcdmhcjdaa

/-- The first k numbers of a list are in range and different. -/
def ordTo (xs : List Int) (k : Nat) : Prop := ∀ i, i < k → (0 ≤ gi xs i ∧ gi xs i < xs.length) ∧ ∀ j, j < i → ¬ gi xs j = gi xs i

instance (xs : List Int) (k : Nat) : Decidable (ordTo xs k) := by unfold ordTo; infer_instance

/-- A list are orders. -/
def ordB (xs : List Int) : Bool := decide (xs.length ≤ 10 ∧ ordTo xs xs.length)

theorem ordB_true {xs : List Int} : ordB xs = true ↔ xs.length ≤ 10 ∧ ordTo xs xs.length := by simp [ordB]

theorem ordTo_zero (xs : List Int) : ordTo xs 0 := fun i hi => absurd hi (by omega)

theorem ordTo_succ {xs : List Int} {k : Nat} (h : ordTo xs k) (h1 : 0 ≤ gi xs k) (h2 : gi xs k < xs.length) (h3 : ∀ j, j < k → ¬ gi xs j = gi xs k) : ordTo xs (k + 1) := by
  intro i hi
  by_cases hik : i = k
  · subst hik; exact ⟨⟨h1, h2⟩, h3⟩
  · exact h i (by omega)

theorem ordTo_mono {xs : List Int} {k m : Nat} (h : ordTo xs k) (hm : m ≤ k) : ordTo xs m := fun i hi => h i (by omega)

theorem ordB_no_long {xs : List Int} (h : 10 < xs.length) : ordB xs = false := by
  simp only [ordB, decide_eq_false_iff_not]
  omega

theorem ordB_no_at {xs : List Int} {k : Nat} (hk : k < xs.length) (h : ¬ ((0 ≤ gi xs k ∧ gi xs k < xs.length) ∧ ∀ j, j < k → ¬ gi xs j = gi xs k)) : ordB xs = false := by
  simp only [ordB, decide_eq_false_iff_not]
  rintro ⟨_, h2⟩
  exact h (h2 k hk)

/-- Distinct coils have distinct numbers. -/
theorem ordB_ne {xs : List Int} (h : ordB xs = true) {i j : Nat} (hi : i < xs.length) (hj : j < xs.length) (hij : i ≠ j) : gi xs i ≠ gi xs j := by
  obtain ⟨_, h2⟩ := ordB_true.1 h
  rcases Nat.lt_or_gt_of_ne hij with hlt | hlt
  · exact (h2 j hj).2 i hlt
  · exact fun e => (h2 i hi).2 j hlt e.symm

theorem ordB_in {xs : List Int} (h : ordB xs = true) {i : Nat} (hi : i < xs.length) : 0 ≤ gi xs i ∧ gi xs i < xs.length := ((ordB_true.1 h).2 i hi).1

/-- Two coils agree, a loaded ahead of b. -/
def agrB (xs : List Int) (a b : Nat) : Bool := decide (a < b) == decide (gi xs b < gi xs a)

/-- What OrdersAgree answers. -/
def agreeB (xs : List Int) (a b : Int) : Bool :=
  ordB xs && inB a 0 ((xs.length : Int) - 1) && inB b 0 ((xs.length : Int) - 1) && (a != b) && agrB xs a.toNat b.toNat

/-- How many of the first k coils do not agree with b. -/
def cntTo (xs : List Int) (b : Nat) : Nat → Nat
  | 0 => 0
  | k + 1 => cntTo xs b k + if agrB xs k b then 0 else 1

theorem cntTo_le (xs : List Int) (b k : Nat) : cntTo xs b k ≤ k := by
  induction k with
  | zero => simp [cntTo]
  | succ k ih => simp only [cntTo]; split <;> omega

/-- How many pairs of the first k coils do not agree. -/
def pairsTo (xs : List Int) : Nat → Nat
  | 0 => 0
  | k + 1 => pairsTo xs k + cntTo xs k k

theorem pairsTo_le (xs : List Int) (k : Nat) : pairsTo xs k ≤ k * k := by
  induction k with
  | zero => simp [pairsTo]
  | succ k ih =>
    have := cntTo_le xs k k
    simp only [pairsTo]
    have : (k + 1) * (k + 1) = k * k + k + k + 1 := by rw [Nat.add_mul, Nat.mul_add]; omega
    omega

/-- What OrdersPairs answers. -/
def pairsI (xs : List Int) : Int := if ordB xs then (pairsTo xs xs.length : Int) else -1

theorem agrB_swap {xs : List Int} (h : ordB xs = true) {i k : Nat} (hi : i < xs.length) (hk : k < i) : agrB xs i k = agrB xs k i := by
  have hne := ordB_ne h (i := k) (j := i) (by omega) hi (by omega)
  simp only [agrB]
  have e1 : decide (i < k) = false := by simp; omega
  have e2 : decide (k < i) = true := by simp; omega
  rw [e1, e2]
  by_cases hlt : gi xs k < gi xs i
  · have : ¬ gi xs i < gi xs k := by omega
    simp [hlt, this]
  · have : gi xs i < gi xs k := by omega
    simp [hlt, this]

/-- What a number becomes without the coil i. -/
def dropV (xs : List Int) (i x : Nat) : Int := if gi xs i < gi xs x then gi xs x - 1 else gi xs x

/-- The first k of the orders without the coil i. -/
def dropTo (xs : List Int) (i : Nat) : Nat → List Int
  | 0 => []
  | k + 1 => if k = i then dropTo xs i k else dropTo xs i k ++ [dropV xs i k]

theorem dropTo_len (xs : List Int) (i k : Nat) : (dropTo xs i k).length = if i < k then k - 1 else k := by
  induction k with
  | zero => simp [dropTo]
  | succ k ih =>
    simp only [dropTo]
    by_cases h : k = i
    · subst h; rw [if_pos rfl, ih]; simp
    · rw [if_neg h, List.length_append, ih, List.length_singleton]
      split <;> split <;> omega

theorem dropTo_le (xs : List Int) (i k : Nat) : (dropTo xs i k).length ≤ k := by
  rw [dropTo_len]; split <;> omega

theorem dropTo_gi (xs : List Int) (i k : Nat) (a : Nat) (ha : a < (dropTo xs i k).length) :
    gi (dropTo xs i k) a = dropV xs i (if a < i then a else a + 1) := by
  induction k with
  | zero => simp [dropTo] at ha
  | succ k ih =>
    simp only [dropTo] at ha ⊢
    by_cases h : k = i
    · subst h
      rw [if_pos rfl] at ha ⊢
      exact ih ha
    · rw [if_neg h] at ha ⊢
      by_cases hl : a < (dropTo xs i k).length
      · have := ih hl
        rw [← this]
        simp [gi, List.getElem?_append_left hl]
      · have hlen := dropTo_len xs i k
        have hal : a = (dropTo xs i k).length := by simp at ha; omega
        have e : gi (dropTo xs i k ++ [dropV xs i k]) a = dropV xs i k := by
          simp [gi, hal]
        rw [e]
        have : (if a < i then a else a + 1) = k := by
          rw [hal, hlen]
          split <;> split <;> omega
        rw [this]

end Go.Proofs.Ytldjnfcdmhcjdaa
