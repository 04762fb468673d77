/- Plain facts: how many coils a tank has; how many tanks are used; the most coils in a tank. -/
import Derived.Test.YtldjnfcdmhcjdaaStowPlain
namespace Go.Proofs.Ytldjnfcdmhcjdaa

/-- How many of the first k numbers are t. -/
def cnt (ts : List Int) (t : Int) : Nat → Nat
  | 0 => 0
  | k + 1 => cnt ts t k + if gi ts k = t then 1 else 0

theorem cnt_le (ts : List Int) (t : Int) (k : Nat) : cnt ts t k ≤ k := by
  induction k with
  | zero => simp [cnt]
  | succ k ih => simp only [cnt]; split <;> omega

theorem cnt_pos {ts : List Int} {t : Int} {k : Nat} : 0 < cnt ts t k ↔ ∃ j, j < k ∧ gi ts j = t := by
  induction k with
  | zero => simp [cnt]
  | succ k ih =>
    simp only [cnt]
    constructor
    · intro h
      by_cases e : gi ts k = t
      · exact ⟨k, by omega, e⟩
      · rw [if_neg e] at h
        obtain ⟨j, hj, he⟩ := ih.1 (by omega)
        exact ⟨j, by omega, he⟩
    · rintro ⟨j, hj, he⟩
      by_cases e : gi ts k = t
      · rw [if_pos e]; omega
      · rw [if_neg e]
        have : j ≠ k := fun h => e (h ▸ he)
        have := ih.2 ⟨j, by omega, he⟩
        omega

def one (b : Prop) [Decidable b] : Nat := if b then 1 else 0

/-- How many of the first m tanks have a coil among the first k. -/
def usedTo (ts : List Int) (k : Nat) : Nat → Nat
  | 0 => 0
  | m + 1 => usedTo ts k m + if 0 < cnt ts (m : Int) k then 1 else 0

theorem usedTo_le (ts : List Int) (k m : Nat) : usedTo ts k m ≤ m := by
  induction m with
  | zero => simp [usedTo]
  | succ m ih => simp only [usedTo]; split <;> omega

/-- How many of the first k numbers are new. -/
def newTo (ts : List Int) : Nat → Nat
  | 0 => 0
  | k + 1 => newTo ts k + if ∃ j, j < k ∧ gi ts j = gi ts k then 0 else 1

theorem newTo_le (ts : List Int) (k : Nat) : newTo ts k ≤ k := by
  induction k with
  | zero => simp [newTo]
  | succ k ih => simp only [newTo]; split <;> omega

theorem usedTo_zero (ts : List Int) (m : Nat) : usedTo ts 0 m = 0 := by
  induction m with
  | zero => rfl
  | succ m ih => simp [usedTo, ih, cnt]

theorem usedTo_succ_other {ts : List Int} {k m : Nat} (h : ∀ t : Nat, t < m → gi ts k ≠ (t : Int)) : usedTo ts (k + 1) m = usedTo ts k m := by
  induction m with
  | zero => rfl
  | succ m ih =>
    simp only [usedTo]
    rw [ih (fun t ht => h t (by omega))]
    have : cnt ts (m : Int) (k + 1) = cnt ts (m : Int) k := by simp [cnt, h m (by omega)]
    rw [this]

theorem usedTo_succ_hit {ts : List Int} {k T : Nat} : ∀ m, T < m → gi ts k = (T : Int) → usedTo ts (k + 1) m = usedTo ts k m + if ∃ j, j < k ∧ gi ts j = gi ts k then 0 else 1 := by
  intro m
  induction m with
  | zero => intro h; omega
  | succ m ih =>
    intro hT he
    simp only [usedTo]
    by_cases hm : T = m
    · subst hm
      rw [usedTo_succ_other (m := T) (fun t ht => by omega)]
      have e1 : cnt ts (T : Int) (k + 1) = cnt ts (T : Int) k + 1 := by simp [cnt, he]
      rw [e1, if_pos (by omega : 0 < cnt ts (T : Int) k + 1), he]
      by_cases hp : ∃ j, j < k ∧ gi ts j = (T : Int)
      · rw [if_pos (cnt_pos.2 hp), if_pos hp]
      · rw [if_neg (fun h => hp (cnt_pos.1 h)), if_neg hp]
    · rw [ih (by omega) he]
      have : cnt ts (m : Int) (k + 1) = cnt ts (m : Int) k := by
        simp only [cnt]
        rw [if_neg (by omega)]
        rfl
      rw [this]
      omega

theorem newTo_used {ts : List Int} {k : Nat} (h : ∀ i, i < k → 0 ≤ gi ts i ∧ gi ts i ≤ 4) : newTo ts k = usedTo ts k 5 := by
  induction k with
  | zero => rw [usedTo_zero]; rfl
  | succ k ih =>
    have hk := h k (by omega)
    obtain ⟨T, hT⟩ := Int.eq_ofNat_of_zero_le hk.1
    rw [usedTo_succ_hit 5 (T := T) (by omega) hT]
    simp only [newTo]
    rw [ih (fun i hi => h i (by omega))]

/-- The greatest of 0 and the first m numbers of a function. -/
def maxTo (f : Nat → Nat) : Nat → Nat
  | 0 => 0
  | m + 1 => max (maxTo f m) (f m)

def tanksI (xs ts : List Int) : Int := if stowB xs ts then (usedTo ts ts.length 5 : Int) else -1
def mostI (xs ts : List Int) : Int := if stowB xs ts then (maxTo (fun t => cnt ts (t : Int) ts.length) 5 : Int) else -1

theorem maxTo_le {f : Nat → Nat} {b : Nat} (h : ∀ t, f t ≤ b) (m : Nat) : maxTo f m ≤ b := by
  induction m with
  | zero => simp [maxTo]
  | succ m ih => simp only [maxTo]; have := h m; omega

end Go.Proofs.Ytldjnfcdmhcjdaa
