/- Plain facts: the row that is taken is ascending, and no coil can be put into it. -/
import Derived.Test.YtldjnfcdmhcjdaaLongPlain
namespace Go.Proofs.Ytldjnfcdmhcjdaa

theorem accL_ge (xs : List Int) (f : Nat → Nat) (i : Nat) : ∀ m k, i < k → k ≤ i + m → gi xs i < gi xs k → f k + 1 ≤ accL xs f i m
  | 0, k, h1, h2, _ => by omega
  | m + 1, k, h1, h2, h3 => by
    simp only [accL]
    by_cases e : k = i + 1 + m
    · subst e
      rw [if_pos h3]; omega
    · have := accL_ge xs f i m k h1 (by omega) h3
      split <;> omega
theorem accL_ex (xs : List Int) (f : Nat → Nat) (i : Nat) : ∀ m, accL xs f i m = 1 ∨ ∃ k, i < k ∧ k ≤ i + m ∧ gi xs i < gi xs k ∧ accL xs f i m = f k + 1
  | 0 => .inl rfl
  | m + 1 => by
    simp only [accL]
    by_cases h : gi xs i < gi xs (i + 1 + m)
    · rw [if_pos h]
      by_cases h2 : accL xs f i m ≤ f (i + 1 + m) + 1
      · exact .inr ⟨i + 1 + m, by omega, by omega, h, by omega⟩
      · rcases accL_ex xs f i m with h3 | ⟨k, a, b, c, d⟩
        · omega
        · exact .inr ⟨k, a, by omega, c, by omega⟩
    · rw [if_neg h]
      rcases accL_ex xs f i m with h3 | ⟨k, a, b, c, d⟩
      · exact .inl h3
      · exact .inr ⟨k, a, by omega, c, d⟩

theorem lg_step {xs : List Int} {a b : Nat} (hab : a < b) (hb : b < xs.length) (hv : gi xs a < gi xs b) : lg xs b + 1 ≤ lg xs a := by
  rw [lg_eq xs a (by omega)]
  exact accL_ge xs _ a _ b hab (by omega) hv
theorem lg_next {xs : List Int} {a : Nat} (ha : a < xs.length) (h : 2 ≤ lg xs a) : ∃ b, a < b ∧ b < xs.length ∧ gi xs a < gi xs b ∧ lg xs a = lg xs b + 1 := by
  rw [lg_eq xs a ha] at h ⊢
  rcases accL_ex xs (lg xs) a (xs.length - 1 - a) with h1 | ⟨k, h1, h2, h3, h4⟩
  · omega
  · exact ⟨k, h1, by omega, h3, h4⟩
theorem mxL_ge {xs : List Int} : ∀ k i, i < k → lg xs i ≤ mxL xs k
  | 0, i, h => by omega
  | k + 1, i, h => by
    simp only [mxL]
    by_cases e : i = k
    · subst e; omega
    · have := mxL_ge (xs := xs) k i (by omega); omega
theorem mxL_at {xs : List Int} : ∀ k, mxL xs k = 0 ∨ ∃ i, i < k ∧ lg xs i = mxL xs k
  | 0 => .inl rfl
  | k + 1 => by
    simp only [mxL]
    by_cases e : mxL xs k ≤ lg xs k
    · exact .inr ⟨k, by omega, by omega⟩
    · rcases mxL_at (xs := xs) k with h | ⟨i, h1, h2⟩
      · omega
      · exact .inr ⟨i, by omega, by omega⟩

/-- What is known of the row taken of the first k. -/
structure Tk (xs : List Int) (k : Nat) (o : List Int) (l : Nat) : Prop where
  sum : o.length + l = mxL xs xs.length
  ins : ∀ j, j < o.length → 0 ≤ gi o j ∧ gi o j < k ∧ lg xs (gi o j).toNat + j = mxL xs xs.length
  up : ∀ i j, i < j → j < o.length → gi o i < gi o j ∧ gi xs (gi o i).toNat < gi xs (gi o j).toNat
  nxt : 1 ≤ l → ∃ i, k ≤ i ∧ i < xs.length ∧ lg xs i = l ∧ (o.length = 0 ∨ gi xs (gi o (o.length - 1)).toNat < gi xs i)

theorem giApp {ys : List Int} {j : Nat} {u : Int} : gi (ys ++ [u]) j = if j < ys.length then gi ys j else if j = ys.length then u else 0 := by
  simp only [gi]
  split
  · rename_i h; rw [List.getElem?_append_left h]
  · split
    · rename_i h; subst h; simp
    · rename_i h1 h2
      rw [List.getElem?_append_right (by omega)]
      have : (1 : Nat) ≤ j - ys.length := by omega
      rw [List.getElem?_eq_none (by simpa using this)]; rfl

theorem tk_all (xs : List Int) : ∀ k, k ≤ xs.length → Tk xs k (takeL xs k).1 (takeL xs k).2
  | 0, _ => ⟨by simp [takeL], fun j hj => by simp [takeL] at hj, fun i j _ hj => by simp [takeL] at hj, fun h => by
      simp only [takeL] at h ⊢
      rcases mxL_at (xs := xs) xs.length with h1 | ⟨i, h1, h2⟩
      · omega
      · exact ⟨i, Nat.zero_le _, h1, h2, .inl rfl⟩⟩
  | k + 1, hk => by
    have ih := tk_all xs k (by omega)
    generalize ho : (takeL xs k).1 = o at ih
    generalize hl : (takeL xs k).2 = l at ih
    have he : takeL xs k = (o, l) := by rw [← ho, ← hl]
    by_cases hc : lg xs k = l ∧ (o.length = 0 ∨ gi xs (gi o (o.length - 1)).toNat < gi xs k)
    · rw [takeL_yes he hc.1 hc.2]
      have hp := lg_pos xs k (by omega)
      have hlen : (o ++ [(k : Int)]).length = o.length + 1 := by simp
      have hlast : ∀ i, i < o.length → gi xs (gi o i).toNat < gi xs k := fun i hi => by
        rcases hc.2 with h | h
        · omega
        · by_cases e : i = o.length - 1
          · subst e; exact h
          · have := (ih.up i (o.length - 1) (by omega) (by omega)).2; omega
      refine ⟨by have := ih.sum; rw [hlen]; show _ + (l - 1) = _; omega, fun j hj => ?_, fun i j hij hj => ?_, fun h => ?_⟩
      · simp only [hlen] at hj
        simp only [giApp]
        by_cases e : j < o.length
        · simp only [if_pos e]
          have := ih.ins j e
          omega
        · have e2 : j = o.length := by omega
          simp only [if_neg e, if_pos e2, Int.toNat_natCast]
          have := ih.sum
          omega
      · simp only [hlen] at hj
        simp only [giApp]
        by_cases e : j < o.length
        · have e2 : i < o.length := by omega
          simp only [if_pos e, if_pos e2]
          exact ih.up i j hij e
        · have e2 : j = o.length := by omega
          have e3 : i < o.length := by omega
          simp only [if_neg e, if_pos e2, if_pos e3, Int.toNat_natCast]
          exact ⟨(ih.ins i e3).2.1, hlast i e3⟩
      · obtain ⟨b, h1, h2, h3, h4⟩ := lg_next (xs := xs) (a := k) (by omega) (by show 2 ≤ lg xs k; have : 1 ≤ l - 1 := h; omega)
        refine ⟨b, by omega, h2, by show lg xs b = l - 1; omega, .inr ?_⟩
        have e : gi (o ++ [(k : Int)]) ((o ++ [(k : Int)]).length - 1) = k := by rw [hlen, giApp]; simp
        show gi xs (gi (o ++ [(k : Int)]) ((o ++ [(k : Int)]).length - 1)).toNat < gi xs b
        rw [e]; simpa using h3
    · rw [takeL_no he hc]
      refine ⟨ih.sum, fun j hj => ?_, ih.up, fun h => ?_⟩
      · have hj' : j < o.length := hj
        have := ih.ins j hj'
        show 0 ≤ gi o j ∧ gi o j < ((k + 1 : Nat) : Int) ∧ lg xs (gi o j).toNat + j = mxL xs xs.length
        exact ⟨this.1, by omega, this.2.2⟩
      · obtain ⟨i, h1, h2, h3, h4⟩ := ih.nxt h
        have : i ≠ k := fun e => by subst e; exact hc ⟨h3, h4⟩
        exact ⟨i, by omega, h2, h3, h4⟩

/-- What FnLongest asks of the row. -/
structure LongOk (xs o : List Int) : Prop where
  ins : ∀ j, j < o.length → 0 ≤ gi o j ∧ gi o j < xs.length
  up : ∀ i j, i < j → j < o.length → gi o i < gi o j ∧ gi xs (gi o i).toNat < gi xs (gi o j).toNat
  all : ∀ c : Nat, c < xs.length → (∃ j, j < o.length ∧ gi o j = c) ∨ ∃ j, j < o.length ∧ agrB xs c (gi o j).toNat = true ∧ (c : Int) ≠ gi o j
  nil : o.length = 0 ↔ xs.length = 0
  le : o.length ≤ xs.length

theorem first_ge (o : List Int) (c : Int) : ∀ m, m ≤ o.length → ∃ p, p ≤ m ∧ (∀ j, j < p → gi o j < c) ∧ (p = m ∨ c ≤ gi o p)
  | 0, _ => ⟨0, Nat.le_refl _, fun j hj => absurd hj (by omega), .inl rfl⟩
  | m + 1, h => by
    obtain ⟨p, h1, h2, h3⟩ := first_ge o c m (by omega)
    rcases h3 with h3 | h3
    · subst h3
      by_cases e : c ≤ gi o p
      · exact ⟨p, by omega, h2, .inr e⟩
      · exact ⟨p + 1, by omega, fun j hj => by
          by_cases e2 : j = p
          · subst e2; omega
          · exact h2 j (by omega), .inl rfl⟩
    · exact ⟨p, by omega, h2, .inr h3⟩

theorem long_ok {xs : List Int} (hx : ordB xs = true) : LongOk xs (outLong xs) := by
  have hT := tk_all xs xs.length (Nat.le_refl _)
  have hle := (takeL_le xs xs.length (Nat.le_refl _)).1
  have ho : outLong xs = (takeL xs xs.length).1 := by simp [outLong, hx]
  rw [ho]
  generalize (takeL xs xs.length).1 = o at hT hle
  generalize (takeL xs xs.length).2 = l at hT
  have hl0 : l = 0 := by
    by_cases h : 1 ≤ l
    · obtain ⟨i, h1, h2, _⟩ := hT.nxt h; omega
    · omega
  subst hl0
  have hM : o.length = mxL xs xs.length := by have := hT.sum; omega
  refine ⟨fun j hj => ⟨(hT.ins j hj).1, (hT.ins j hj).2.1⟩, hT.up, fun c hc => ?_, ?_, hle⟩
  · obtain ⟨p, h1, h2, h3⟩ := first_ge o (c : Int) o.length (Nat.le_refl _)
    by_cases hin : ∃ j, j < o.length ∧ gi o j = c
    · exact .inl hin
    · refine .inr ?_
      have hneq : ∀ j, j < o.length → (c : Int) ≠ gi o j := fun j hj e => hin ⟨j, hj, e.symm⟩
      have hneqv : ∀ j, j < o.length → gi xs c ≠ gi xs (gi o j).toNat := fun j hj => by
        have := hT.ins j hj
        exact ordB_ne hx hc (by omega) (by have := hneq j hj; omega)
      -- if no agreeing coil stands there, the row is not the longest
      by_cases hag : ∃ j, j < o.length ∧ agrB xs c (gi o j).toNat = true ∧ (c : Int) ≠ gi o j
      · exact hag
      · exfalso
        have hno : ∀ j, j < o.length → agrB xs c (gi o j).toNat = false := fun j hj => by
          cases e : agrB xs c (gi o j).toNat with
          | false => rfl
          | true => exact absurd ⟨j, hj, e, hneq j hj⟩ hag
        have hless : ∀ j, j < o.length → gi o j < c → gi xs (gi o j).toNat < gi xs c := fun j hj h => by
          have h4 := hno j hj
          have h5 := hneqv j hj
          have h6 := hT.ins j hj
          have e1 : decide (c < (gi o j).toNat) = false := by simp; omega
          simp only [agrB, e1] at h4
          have : ¬ decide (gi xs (gi o j).toNat < gi xs c) = false := fun e => by rw [e] at h4; simp at h4
          simp at this; exact this
        have hmore : ∀ j, j < o.length → (c : Int) < gi o j → gi xs c < gi xs (gi o j).toNat := fun j hj h => by
          have h4 := hno j hj
          have h5 := hneqv j hj
          have h6 := hT.ins j hj
          have e1 : decide (c < (gi o j).toNat) = true := by simp; omega
          simp only [agrB, e1] at h4
          have : decide (gi xs (gi o j).toNat < gi xs c) = false := by
            cases e : decide (gi xs (gi o j).toNat < gi xs c) with
            | false => rfl
            | true => rw [e] at h4; simp at h4
          simp at this; omega
        have hup : lg xs c + p ≤ mxL xs xs.length := by
          by_cases hp0 : p = 0
          · subst hp0
            have := mxL_ge (xs := xs) xs.length c hc
            omega
          · have h7 := hT.ins (p - 1) (by omega)
            have h8 := h2 (p - 1) (by omega)
            have h9 := lg_step (xs := xs) (a := (gi o (p - 1)).toNat) (b := c) (by omega) hc (hless (p - 1) (by omega) h8)
            omega
        rcases h3 with h3 | h3
        · have := lg_pos xs c hc; omega
        · by_cases hpl : p < o.length
          · have h7 := hT.ins p hpl
            have h8 := hneq p hpl
            have h9 := lg_step (xs := xs) (a := c) (b := (gi o p).toNat) (by omega) (by omega) (hmore p hpl (by omega))
            omega
          · have := lg_pos xs c hc; omega
  · constructor
    · intro h
      by_cases hn : xs.length = 0
      · exact hn
      · have h1 := mxL_ge (xs := xs) xs.length 0 (by omega)
        have h2 := lg_pos xs 0 (by omega)
        omega
    · intro h; omega

/-- Do the first k of the row have the coil c, or agree with it? -/
def agrTo (xs o : List Int) (c : Nat) : Nat → Bool
  | 0 => decide ((c : Int) ∈ o)
  | k + 1 => agrTo xs o c k || agreeB xs c (gi o k)

theorem agrTo_mono (xs o : List Int) (c : Nat) : ∀ k m, k ≤ m → agrTo xs o c k = true → agrTo xs o c m = true
  | k, 0, h, h1 => by
    have : k = 0 := by omega
    subst this; exact h1
  | k, m + 1, h, h1 => by
    by_cases e : k = m + 1
    · subst e; exact h1
    · simp only [agrTo, agrTo_mono xs o c k m (by omega) h1, Bool.true_or]

theorem agree_of {xs : List Int} {a b : Nat} (hx : ordB xs = true) (ha : a < xs.length) (hb : b < xs.length) (hne : a ≠ b) (h : agrB xs a b = true) : agreeB xs a b = true := by
  have e1 : inB (a : Int) 0 ((xs.length : Int) - 1) = true := inB_true.2 ⟨by omega, by omega⟩
  have e2 : inB (b : Int) 0 ((xs.length : Int) - 1) = true := inB_true.2 ⟨by omega, by omega⟩
  have e3 : ((a : Int) != (b : Int)) = true := by rw [bne_iff_ne]; omega
  simp only [agreeB, hx, e1, e2, e3, Bool.true_and, Int.toNat_natCast]
  exact h

theorem long_all {xs o : List Int} (hx : ordB xs = true) (h : LongOk xs o) {c : Nat} (hc : c < xs.length) : agrTo xs o c o.length = true := by
  rcases h.all c hc with ⟨j, hj, e⟩ | ⟨j, hj, e, hne⟩
  · refine agrTo_mono xs o c 0 _ (Nat.zero_le _) ?_
    simp only [agrTo, decide_eq_true_eq]
    rw [← e, gi_eq hj]
    exact List.getElem_mem _
  · refine agrTo_mono xs o c (j + 1) _ hj ?_
    have hin := h.ins j hj
    have := agree_of hx hc (b := (gi o j).toNat) (by omega) (by omega) e
    rw [Int.toNat_of_nonneg hin.1] at this
    simp only [agrTo, this, Bool.or_true]

theorem long_not {xs o : List Int} (h : LongOk xs o) {i k : Nat} (hki : k < i) (hi : i < o.length) : agreeB xs (gi o k) (gi o i) = false := by
  have h1 := h.up k i hki hi
  have h2 := h.ins k (by omega)
  have h3 := h.ins i hi
  have e1 : decide ((gi o k).toNat < (gi o i).toNat) = true := by simp; omega
  have e2 : decide (gi xs (gi o i).toNat < gi xs (gi o k).toNat) = false := by simp; omega
  simp only [agreeB, agrB, e1, e2]
  simp

end Go.Proofs.Ytldjnfcdmhcjdaa
