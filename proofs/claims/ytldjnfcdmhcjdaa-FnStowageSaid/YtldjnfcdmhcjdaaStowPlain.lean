/- Plain facts on stowages. -/
import Derived.Test.YtldjnfcdmhcjdaaOrdPlain
namespace Go.Proofs.Ytldjnfcdmhcjdaa

/-- The first k coils lie in tanks that there are, and coils of a tank agree. -/
def stowTo (xs ts : List Int) (k : Nat) : Prop := ∀ i, i < k → (0 ≤ gi ts i ∧ gi ts i ≤ 4) ∧ ∀ j, j < i → gi ts i = gi ts j → gi xs i < gi xs j
instance (xs ts : List Int) (k : Nat) : Decidable (stowTo xs ts k) := by unfold stowTo; infer_instance

/-- A list is a stowage of orders. -/
def stowB (xs ts : List Int) : Bool := ordB xs && decide (ts.length = xs.length ∧ stowTo xs ts ts.length)

theorem stowTo_zero (xs ts : List Int) : stowTo xs ts 0 := fun i hi => absurd hi (by omega)
theorem stowTo_mono {xs ts : List Int} {k m : Nat} (h : stowTo xs ts k) (hm : m ≤ k) : stowTo xs ts m := fun i hi => h i (by omega)
theorem stowTo_succ {xs ts : List Int} {k : Nat} (h : stowTo xs ts k) (h1 : 0 ≤ gi ts k ∧ gi ts k ≤ 4) (h2 : ∀ j, j < k → gi ts k = gi ts j → gi xs k < gi xs j) : stowTo xs ts (k + 1) := by
  intro i hi
  by_cases hik : i = k
  · subst hik; exact ⟨h1, h2⟩
  · exact h i (by omega)
theorem stowB_true {xs ts : List Int} : stowB xs ts = true ↔ ordB xs = true ∧ ts.length = xs.length ∧ stowTo xs ts ts.length := by simp [stowB]
theorem stowB_no_at {xs ts : List Int} {k : Nat} (hk : k < ts.length) (h : ¬ ((0 ≤ gi ts k ∧ gi ts k ≤ 4) ∧ ∀ j, j < k → gi ts k = gi ts j → gi xs k < gi xs j)) : stowB xs ts = false := by
  cases hb : stowB xs ts with
  | false => rfl
  | true => exact absurd ((stowB_true.1 hb).2.2 k hk) h

/-- The coils of a tank among the first k, the last one at the end. -/
def stk (ts : List Int) (t : Int) : Nat → List Int
  | 0 => []
  | k + 1 => if gi ts k = t then stk ts t k ++ [(k : Int)] else stk ts t k

theorem stk_len (ts : List Int) (t : Int) (k : Nat) : (stk ts t k).length ≤ k := by
  induction k with
  | zero => simp [stk]
  | succ k ih =>
    simp only [stk]
    split
    · simp; omega
    · omega

theorem stk_spec (ts : List Int) (t : Int) (k : Nat) :
    (stk ts t k = [] ∧ ∀ j, j < k → ¬ gi ts j = t) ∨ (∃ (j : Nat) (ys : List Int), stk ts t k = ys ++ [(j : Int)] ∧ j < k ∧ gi ts j = t ∧ ∀ i, i < k → gi ts i = t → i ≤ j) := by
  induction k with
  | zero => exact .inl ⟨rfl, fun j hj => absurd hj (by omega)⟩
  | succ k ih =>
    simp only [stk]
    by_cases h : gi ts k = t
    · rw [if_pos h]
      exact .inr ⟨k, _, rfl, by omega, h, fun i hi _ => by omega⟩
    · rw [if_neg h]
      rcases ih with ⟨h1, h2⟩ | ⟨j, ys, h1, h2, h3, h4⟩
      · exact .inl ⟨h1, fun j hj => by
          by_cases hjk : j = k
          · subst hjk; exact h
          · exact h2 j (by omega)⟩
      · exact .inr ⟨j, ys, h1, by omega, h3, fun i hi hit => by
          by_cases hik : i = k
          · subst hik; exact absurd hit h
          · exact h4 i (by omega) hit⟩

/-- Where the coil on top agrees, all of the tank do. -/
theorem stow_step {xs ts : List Int} {k j : Nat} (hx : ordB xs = true) (hk : k < xs.length) (h : stowTo xs ts k) (hj : j < k) (hjt : gi ts j = gi ts k) (hlast : ∀ i, i < k → gi ts i = gi ts k → i ≤ j) (ht : ¬ gi xs j < gi xs k) :
    ∀ i, i < k → gi ts k = gi ts i → gi xs k < gi xs i := by
  intro i hi hit
  have hne := ordB_ne hx (i := j) (j := k) (by omega) hk (by omega)
  have hij := hlast i hi hit.symm
  by_cases hie : i = j
  · subst hie; omega
  · have := (h j hj).2 i (by omega) (by omega)
    omega

end Go.Proofs.Ytldjnfcdmhcjdaa
