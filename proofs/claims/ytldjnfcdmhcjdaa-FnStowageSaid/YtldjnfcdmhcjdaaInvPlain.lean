/- Plain facts: orders hit every number; the coil that is paid out as a number; orders turned round. -/
import Derived.Test.YtldjnfcdmhcjdaaOrdPlain
namespace Go.Proofs.Ytldjnfcdmhcjdaa

/-- A function on the first n numbers that is one to one hits each of them. -/
theorem pigeon (n : Nat) : ∀ f : Nat → Nat, (∀ i, i < n → f i < n) → (∀ i j, i < n → j < n → f i = f j → i = j) → ∀ j, j < n → ∃ i, i < n ∧ f i = j := by
  induction n with
  | zero => intro f _ _ j hj; omega
  | succ n ih =>
    intro f hf hinj j hj
    let m := f n
    have hm : m < n + 1 := hf n (by omega)
    let g : Nat → Nat := fun i => if f i = n then m else f i
    have hg : ∀ i, i < n → g i < n := by
      intro i hi
      show (if f i = n then m else f i) < n
      by_cases e : f i = n
      · rw [if_pos e]
        have : m ≠ n := fun h => by
          have := hinj i n (by omega) (by omega) (e.trans h.symm)
          omega
        omega
      · rw [if_neg e]
        have := hf i (by omega)
        omega
    have hgi : ∀ i k, i < n → k < n → g i = g k → i = k := by
      intro i k hi hk he
      have he' : (if f i = n then m else f i) = (if f k = n then m else f k) := he
      by_cases e1 : f i = n <;> by_cases e2 : f k = n
      · exact hinj i k (by omega) (by omega) (e1.trans e2.symm)
      · rw [if_pos e1, if_neg e2] at he'
        have := hinj n k (by omega) (by omega) he'
        omega
      · rw [if_neg e1, if_pos e2] at he'
        have := hinj i n (by omega) (by omega) he'
        omega
      · rw [if_neg e1, if_neg e2] at he'
        exact hinj i k (by omega) (by omega) he'
    by_cases hjm : j = m
    · exact ⟨n, by omega, hjm.symm⟩
    · by_cases hjn : j = n
      · obtain ⟨i, hi, e⟩ := ih g hg hgi m (by omega)
        have e' : (if f i = n then m else f i) = m := e
        by_cases e1 : f i = n
        · exact ⟨i, by omega, by omega⟩
        · rw [if_neg e1] at e'
          have := hinj i n (by omega) (by omega) e'
          omega
      · obtain ⟨i, hi, e⟩ := ih g hg hgi j (by omega)
        have e' : (if f i = n then m else f i) = j := e
        by_cases e1 : f i = n
        · rw [if_pos e1] at e'; omega
        · rw [if_neg e1] at e'
          exact ⟨i, by omega, e'⟩

/-- Each number is the one of some coil. -/
theorem ord_surj {xs : List Int} (h : ordB xs = true) {j : Nat} (hj : j < xs.length) : ∃ i, i < xs.length ∧ gi xs i = (j : Int) := by
  obtain ⟨i, hi, e⟩ := pigeon xs.length (fun i => (gi xs i).toNat) (fun i hi => by have := ordB_in h hi; omega)
    (fun i k hi hk he => by
      by_cases hik : i = k
      · exact hik
      · exact absurd (by have h1 := ordB_in h hi; have h2 := ordB_in h hk; omega) (ordB_ne h hi hk hik)) j hj
  have := ordB_in h hi
  exact ⟨i, hi, by omega⟩

/-- The last place among the first k at which the number j stands. -/
def idx (xs : List Int) (j : Int) : Nat → Nat
  | 0 => 0
  | k + 1 => if gi xs k = j then k else idx xs j k

theorem idx_eq {xs : List Int} (h : ordB xs = true) {i : Nat} (hi : i < xs.length) : ∀ k, i < k → k ≤ xs.length → idx xs (gi xs i) k = i := by
  intro k
  induction k with
  | zero => intro h1; omega
  | succ k ih =>
    intro h1 h2
    simp only [idx]
    by_cases hik : i = k
    · subst hik; rw [if_pos rfl]
    · rw [if_neg (fun e => ordB_ne h (by omega) hi (fun e' => hik e'.symm) e)]
      exact ih (by omega) (by omega)

/-- The coil that is paid out as the number j. -/
def inv1 (xs : List Int) (j : Nat) : Nat := idx xs j xs.length

theorem inv1_of {xs : List Int} (h : ordB xs = true) {i : Nat} (hi : i < xs.length) : inv1 xs (gi xs i).toNat = i := by
  have h1 := ordB_in h hi
  have h2 := idx_eq h hi xs.length hi (Nat.le_refl _)
  unfold inv1
  rw [show (((gi xs i).toNat : Nat) : Int) = gi xs i from by omega]
  exact h2

theorem inv1_spec {xs : List Int} (h : ordB xs = true) {j : Nat} (hj : j < xs.length) : inv1 xs j < xs.length ∧ gi xs (inv1 xs j) = (j : Int) := by
  obtain ⟨i, hi, e⟩ := ord_surj h hj
  have := inv1_of h hi
  rw [e] at this
  simp only [Int.toNat_natCast] at this
  rw [this]
  exact ⟨hi, e⟩

/-- The coils in the order of paying out. -/
def invL (xs : List Int) : List Int := (List.range xs.length).map fun (j : Nat) => (inv1 xs j : Int)
theorem invL_len (xs : List Int) : (invL xs).length = xs.length := by simp [invL]
theorem invL_gi {xs : List Int} {j : Nat} (hj : j < xs.length) : gi (invL xs) j = (inv1 xs j : Int) := by simp [gi, invL, hj]

/-- Orders turned round: loading is paying out, from the end. -/
def backL (xs : List Int) : List Int := (List.range xs.length).map fun (j : Nat) => (xs.length : Int) - 1 - (inv1 xs (xs.length - 1 - j) : Int)
theorem backL_len (xs : List Int) : (backL xs).length = xs.length := by simp [backL]
theorem backL_gi {xs : List Int} {j : Nat} (hj : j < xs.length) : gi (backL xs) j = (xs.length : Int) - 1 - (inv1 xs (xs.length - 1 - j) : Int) := by simp [gi, backL, hj]

/-- The tanks in the order of paying out. -/
def outL (xs ts : List Int) : List Int := (List.range xs.length).map fun (j : Nat) => gi ts (inv1 xs j)
theorem outL_len (xs ts : List Int) : (outL xs ts).length = xs.length := by simp [outL]
theorem outL_gi {xs ts : List Int} {j : Nat} (hj : j < xs.length) : gi (outL xs ts) j = gi ts (inv1 xs j) := by simp [gi, outL, hj]

def outBack (xs : List Int) : List Int := if ordB xs then backL xs else []

end Go.Proofs.Ytldjnfcdmhcjdaa
