/- Plain facts: how many coils the longest row that begins with each has; the row that is taken. -/
import Derived.Test.YtldjnfcdmhcjdaaCntPlain
namespace Go.Proofs.Ytldjnfcdmhcjdaa

/-- The longest of 1 and one more than f at the first m numbers behind i that are greater. -/
def accL (xs : List Int) (f : Nat → Nat) (i : Nat) : Nat → Nat
  | 0 => 1
  | j + 1 => if gi xs i < gi xs (i + 1 + j) then max (accL xs f i j) (f (i + 1 + j) + 1) else accL xs f i j

theorem accL_congr {xs : List Int} {f g : Nat → Nat} {i : Nat} : ∀ m, (∀ k, i < k → k ≤ i + m → f k = g k) → accL xs f i m = accL xs g i m
  | 0, _ => rfl
  | m + 1, h => by
    simp only [accL]
    rw [accL_congr m (fun k h1 h2 => h k h1 (by omega)), h (i + 1 + m) (by omega) (by omega)]

def lgF (xs : List Int) (n : Nat) : Nat → Nat → Nat
  | 0, _ => 1
  | d + 1, i => accL xs (lgF xs n d) i (n - 1 - i)

theorem lgF_eq (xs : List Int) (n : Nat) : ∀ d e i, n - i ≤ d → n - i ≤ e → lgF xs n d i = lgF xs n e i
  | 0, 0, _, _, _ => rfl
  | 0, e + 1, i, h, _ => by
    have : n - 1 - i = 0 := by omega
    simp only [lgF, this, accL]
  | d + 1, 0, i, _, h => by
    have : n - 1 - i = 0 := by omega
    simp only [lgF, this, accL]
  | d + 1, e + 1, i, h1, h2 => by
    simp only [lgF]
    exact accL_congr _ fun k hk _ => lgF_eq xs n d e k (by omega) (by omega)

/-- The longest row that begins with coil i. -/
def lg (xs : List Int) (i : Nat) : Nat := lgF xs xs.length xs.length i

theorem lg_eq (xs : List Int) (i : Nat) (hi : i < xs.length) : lg xs i = accL xs (lg xs) i (xs.length - 1 - i) := by
  unfold lg
  rw [lgF_eq xs xs.length xs.length (xs.length + 1) i (by omega) (by omega)]
  rfl

theorem accL_pos (xs : List Int) (f : Nat → Nat) (i : Nat) : ∀ m, 1 ≤ accL xs f i m
  | 0 => Nat.le_refl _
  | m + 1 => by
    have := accL_pos xs f i m
    simp only [accL]
    split <;> omega

theorem accL_le (xs : List Int) (f : Nat → Nat) (i b : Nat) (hb : 1 ≤ b) : ∀ m, (∀ k, i < k → k ≤ i + m → f k + 1 ≤ b) → accL xs f i m ≤ b
  | 0, _ => hb
  | m + 1, h => by
    have h1 := accL_le xs f i b hb m (fun k h1 h2 => h k h1 (by omega))
    have h2 := h (i + 1 + m) (by omega) (by omega)
    simp only [accL]
    split <;> omega

theorem lgF_le (xs : List Int) (n : Nat) : ∀ d i, i < n → lgF xs n d i ≤ n - i
  | 0, i, h => by simp only [lgF]; omega
  | d + 1, i, h => by
    simp only [lgF]
    refine accL_le _ _ _ _ (by omega) _ fun k h1 h2 => ?_
    have := lgF_le xs n d k (by omega)
    omega

theorem lg_le (xs : List Int) (i : Nat) (hi : i < xs.length) : lg xs i ≤ xs.length := by
  have := lgF_le xs xs.length xs.length i hi
  unfold lg
  omega
theorem lg_pos (xs : List Int) (i : Nat) (hi : i < xs.length) : 1 ≤ lg xs i := by
  rw [lg_eq xs i hi]
  exact accL_pos _ _ _ _

/-- The most of the first k. -/
def mxL (xs : List Int) : Nat → Nat
  | 0 => 0
  | k + 1 => max (mxL xs k) (lg xs k)
theorem mxL_le (xs : List Int) : ∀ k, k ≤ xs.length → mxL xs k ≤ xs.length
  | 0, _ => Nat.zero_le _
  | k + 1, h => by
    have h1 := mxL_le xs k (by omega)
    have h2 := lg_le xs k (by omega)
    simp only [mxL]
    omega

/-- The row that is taken of the first k, and how many are left. -/
def takeL (xs : List Int) : Nat → List Int × Nat
  | 0 => ([], mxL xs xs.length)
  | k + 1 => if lg xs k = (takeL xs k).2 ∧ ((takeL xs k).1.length = 0 ∨ gi xs (gi (takeL xs k).1 ((takeL xs k).1.length - 1)).toNat < gi xs k) then ((takeL xs k).1 ++ [(k : Int)], (takeL xs k).2 - 1) else takeL xs k

theorem takeL_le (xs : List Int) : ∀ k, k ≤ xs.length → (takeL xs k).1.length ≤ k ∧ (takeL xs k).2 ≤ xs.length
  | 0, _ => ⟨Nat.le_refl _, mxL_le xs _ (Nat.le_refl _)⟩
  | k + 1, h => by
    have := takeL_le xs k (by omega)
    simp only [takeL]
    split
    · simp; omega
    · omega

theorem takeL_in (xs : List Int) : ∀ k j, j < (takeL xs k).1.length → 0 ≤ gi (takeL xs k).1 j ∧ gi (takeL xs k).1 j < k
  | 0, j, h => by simp [takeL] at h
  | k + 1, j, h => by
    simp only [takeL] at h ⊢
    split at h
    · rename_i hc
      rw [if_pos hc]
      simp at h
      by_cases e : j < (takeL xs k).1.length
      · have := takeL_in xs k j e
        have e2 : gi ((takeL xs k).1 ++ [(k : Int)]) j = gi (takeL xs k).1 j := by simp [gi, List.getElem?_append_left e]
        simp only [e2]
        omega
      · have e2 : gi ((takeL xs k).1 ++ [(k : Int)]) j = k := by
          have : j = (takeL xs k).1.length := by omega
          subst this
          simp [gi]
        simp only [e2]
        omega
    · rename_i hc
      rw [if_neg hc]
      have := takeL_in xs k j h
      omega

theorem takeL_yes {xs : List Int} {k : Nat} {o : List Int} {l : Nat} (h : takeL xs k = (o, l)) (h1 : lg xs k = l) (h2 : o.length = 0 ∨ gi xs (gi o (o.length - 1)).toNat < gi xs k) : takeL xs (k + 1) = (o ++ [(k : Int)], l - 1) := by
  simp only [takeL, h]
  rw [if_pos ⟨h1, h2⟩]
theorem takeL_no {xs : List Int} {k : Nat} {o : List Int} {l : Nat} (h : takeL xs k = (o, l)) (h1 : ¬ (lg xs k = l ∧ (o.length = 0 ∨ gi xs (gi o (o.length - 1)).toNat < gi xs k))) : takeL xs (k + 1) = (o, l) := by
  simp only [takeL, h]
  rw [if_neg h1]

def outLong (xs : List Int) : List Int := if ordB xs then (takeL xs xs.length).1 else []
def lgs (xs : List Int) : List Int := (List.range xs.length).map fun i => (lg xs i : Int)
theorem lgs_len (xs : List Int) : (lgs xs).length = xs.length := by simp [lgs]
theorem lgs_gi {xs : List Int} {j : Nat} (hj : j < xs.length) : gi (lgs xs) j = lg xs j := by simp [gi, lgs, hj]

end Go.Proofs.Ytldjnfcdmhcjdaa
