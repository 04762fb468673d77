/- Plain facts on joints: sets of spares as numbers, their lists, which comes ahead, the best one; nothing of the program. -/
import Derived.Test.YthbkimojbbkeiaaDoorSpPlain
namespace Go.Proofs.YthbkimojbbkeiaaDoor

/-- The indexes below n of a set. -/
def bitsL (s : Nat) : Nat → List Int
  | 0 => []
  | i + 1 => if s.testBit i then bitsL s i ++ [(i : Int)] else bitsL s i
theorem bitsL_mem {s : Nat} {x : Int} : ∀ {n : Nat}, x ∈ bitsL s n ↔ ∃ i : Nat, i < n ∧ x = i ∧ s.testBit i = true
  | 0 => by simp [bitsL]
  | n + 1 => by
    have ih := bitsL_mem (s := s) (x := x) (n := n)
    rw [bitsL]
    split
    · rename_i h
      rw [List.mem_append, ih, List.mem_singleton]
      constructor
      · rintro (⟨i, hi, e, ht⟩ | e)
        · exact ⟨i, by omega, e, ht⟩
        · exact ⟨n, by omega, e, h⟩
      · rintro ⟨i, hi, e, ht⟩
        by_cases en : i = n
        · subst en; exact .inr e
        · exact .inl ⟨i, by omega, e, ht⟩
    · rename_i h
      rw [ih]
      constructor
      · rintro ⟨i, hi, e, ht⟩; exact ⟨i, by omega, e, ht⟩
      · rintro ⟨i, hi, e, ht⟩
        by_cases en : i = n
        · subst en; exact absurd ht h
        · exact ⟨i, by omega, e, ht⟩
theorem bitsL_len {s : Nat} : ∀ {n : Nat}, (bitsL s n).length ≤ n
  | 0 => by simp [bitsL]
  | n + 1 => by
    have := bitsL_len (s := s) (n := n)
    rw [bitsL]
    split
    · simp; exact this
    · omega
theorem bitsL_zero : ∀ n, bitsL 0 n = []
  | 0 => rfl
  | n + 1 => by rw [bitsL, bitsL_zero n]; simp
theorem bitsL_nil {s n : Nat} (hs : s < 2 ^ n) : bitsL s n = [] ↔ s = 0 := by
  constructor
  · intro h
    apply Nat.eq_of_testBit_eq
    intro i
    rw [Nat.zero_testBit]
    by_cases hi : i < n
    · cases e : s.testBit i with
      | false => rfl
      | true =>
        have : (i : Int) ∈ bitsL s n := bitsL_mem.2 ⟨i, hi, rfl, e⟩
        rw [h] at this; simp at this
    · exact Nat.testBit_lt_two_pow (Nat.lt_of_lt_of_le hs (Nat.pow_le_pow_right (by omega) (by omega)))
  · rintro rfl; exact bitsL_zero n
/-- The indexes ascend, and lie below n. -/
theorem bitsL_up {s : Nat} : ∀ {n : Nat}, (bitsL s n).Pairwise (· < ·)
  | 0 => List.Pairwise.nil
  | n + 1 => by
    rw [bitsL]
    split
    · refine List.pairwise_append.2 ⟨bitsL_up, List.pairwise_singleton _ _, fun a ha b hb => ?_⟩
      obtain ⟨i, hi, e, _⟩ := bitsL_mem.1 ha
      rw [List.mem_singleton] at hb
      omega
    · exact bitsL_up
theorem bitsL_at {s n i : Nat} (hi : i < (bitsL s n).length) : ∃ k : Nat, k < n ∧ gi (bitsL s n) i = (k : Int) ∧ s.testBit k = true := by
  have : gi (bitsL s n) i ∈ bitsL s n := by rw [gi_eq hi]; exact List.getElem_mem _
  obtain ⟨k, hk, e, ht⟩ := bitsL_mem.1 this
  exact ⟨k, hk, e, ht⟩

/-- The miles of the first k of a list of indexes; whether these are of a kind. -/
def jsTo (cs : List Int) (l : List Int) : Nat → Int
  | 0 => 0
  | k + 1 => jsTo cs l k + smi cs (gi l k).toNat
def jkTo (cs : List Int) (kind : Int) (l : List Int) (k : Nat) : Prop := ∀ i, i < k → ski cs (gi l i).toNat = kind
instance (cs : List Int) (kind : Int) (l : List Int) (k : Nat) : Decidable (jkTo cs kind l k) := by unfold jkTo; infer_instance
theorem jkTo_zero (cs : List Int) (kind : Int) (l : List Int) : jkTo cs kind l 0 := fun i hi => absurd hi (by omega)
theorem jkTo_succ {cs : List Int} {kind : Int} {l : List Int} {k : Nat} (h : jkTo cs kind l k) (h1 : ski cs (gi l k).toNat = kind) : jkTo cs kind l (k + 1) := fun i hi => by
  by_cases e : i = k
  · subst e; exact h1
  · exact h i (by omega)
theorem jsTo_bd {cs : List Int} {n : Nat} (hc : spTo cs n) {l : List Int} (hl : ∀ i, i < l.length → 0 ≤ gi l i ∧ gi l i < n) : ∀ {k : Nat}, k ≤ l.length → 0 ≤ jsTo cs l k ∧ jsTo cs l k ≤ 50 * k
  | 0, _ => by simp [jsTo]
  | k + 1, h => by
    have h1 := jsTo_bd hc hl (k := k) (by omega)
    have h2 := hl k (by omega)
    have h3 := (hc (gi l k).toNat (by omega)).1
    rw [jsTo]; omega
/-- The miles of a set of one kind, or -1. -/
def jtI (cs : List Int) (kind : Int) (l : List Int) : Int := if jkTo cs kind l l.length then jsTo cs l l.length else -1
theorem jtI_no {cs : List Int} {kind : Int} {l : List Int} {k : Nat} (hk : k < l.length) (h : ski cs (gi l k).toNat ≠ kind) : jtI cs kind l = -1 := by
  unfold jtI
  rw [if_neg fun hh => h (hh k hk)]
theorem jtI_yes {cs : List Int} {kind : Int} {l : List Int} (h : jkTo cs kind l l.length) : jtI cs kind l = jsTo cs l l.length := by
  unfold jtI
  rw [if_pos h]
theorem jtI_bd {cs : List Int} {n : Nat} (hc : spTo cs n) {kind : Int} {l : List Int} (hl : ∀ i, i < l.length → 0 ≤ gi l i ∧ gi l i < n) : -1 ≤ jtI cs kind l ∧ jtI cs kind l ≤ 50 * l.length := by
  have := jsTo_bd hc hl (Nat.le_refl _)
  unfold jtI
  split <;> omega

/-- The first index at which two lists differ is lesser. -/
def lexP (a b : List Int) : Prop := ∃ i, i < a.length ∧ (∀ j, j < i → gi a j = gi b j) ∧ gi a i < gi b i
instance (a b : List Int) : Decidable (lexP a b) := by unfold lexP; infer_instance
theorem lexP_at {a b : List Int} {i : Nat} (hi : i < a.length) (h : ∀ j, j < i → gi a j = gi b j) (hne : gi a i ≠ gi b i) : decide (lexP a b) = decide (gi a i < gi b i) := by
  rw [Bool.eq_iff_iff, decide_eq_true_eq, decide_eq_true_eq]
  constructor
  · rintro ⟨k, hk, h1, h2⟩
    rcases Nat.lt_trichotomy k i with h3 | h3 | h3
    · have := h k h3; omega
    · subst h3; exact h2
    · exact absurd (h1 i h3) hne
  · intro h1
    exact ⟨i, hi, h, h1⟩
theorem lexP_none {a b : List Int} (h : ∀ j, j < a.length → gi a j = gi b j) : decide (lexP a b) = false := by
  rw [decide_eq_false_iff_not]
  rintro ⟨k, hk, _, h2⟩
  have := h k hk; omega
/-- A set comes ahead of another one. -/
def ahd (cs : List Int) (kind : Int) (a b : List Int) : Bool :=
  if a.length = b.length then (if jtI cs kind a = jtI cs kind b then decide (lexP a b) else decide (jtI cs kind a < jtI cs kind b)) else decide (a.length < b.length)

/-- A set is of one kind, and long enough. -/
def gdB (cs : List Int) (kind miles : Int) (n s : Nat) : Bool := decide (miles ≤ jtI cs kind (bitsL s n))
/-- The best of the sets below s, or 0. -/
def bj (cs : List Int) (kind miles : Int) (n : Nat) : Nat → Nat
  | 0 => 0
  | s + 1 => if gdB cs kind miles n s && (decide (bj cs kind miles n s = 0) || ahd cs kind (bitsL s n) (bitsL (bj cs kind miles n s) n)) then s else bj cs kind miles n s
theorem bj_lt {cs : List Int} {kind miles : Int} {n : Nat} : ∀ {s : Nat}, bj cs kind miles n s = 0 ∨ bj cs kind miles n s < s
  | 0 => .inl rfl
  | s + 1 => by
    rw [bj]
    split
    · exact .inr (by omega)
    · rcases bj_lt (cs := cs) (kind := kind) (miles := miles) (n := n) (s := s) with h | h
      · exact .inl h
      · exact .inr (by omega)
theorem bj_one {cs : List Int} {kind miles : Int} {n : Nat} : bj cs kind miles n 1 = 0 := by
  simp [bj]
theorem bj_gd {cs : List Int} {kind miles : Int} {n : Nat} : ∀ {s : Nat}, bj cs kind miles n s ≠ 0 → gdB cs kind miles n (bj cs kind miles n s) = true
  | 0, h => absurd rfl h
  | s + 1, h => by
    rw [bj] at h ⊢
    split
    · rename_i h1
      simp only [Bool.and_eq_true] at h1
      exact h1.1
    · rename_i h1
      rw [if_neg h1] at h
      exact bj_gd h
/-- No set that is long enough has fewer spares. -/
theorem bj_min {cs : List Int} {kind miles : Int} {n : Nat} : ∀ {s t : Nat}, t < s → t ≠ 0 → gdB cs kind miles n t = true → bj cs kind miles n s ≠ 0 ∧ (bitsL (bj cs kind miles n s) n).length ≤ (bitsL t n).length
  | 0, t, h, _, _ => absurd h (by omega)
  | s + 1, t, h, h0, hg => by
    rw [bj]
    by_cases e : t = s
    · subst e
      rw [hg, Bool.true_and]
      split
      · exact ⟨h0, Nat.le_refl _⟩
      · rename_i h1
        simp only [Bool.or_eq_true, decide_eq_true_eq, not_or] at h1
        refine ⟨h1.1, ?_⟩
        have h2 := h1.2
        unfold ahd at h2
        split at h2
        · omega
        · simp only [decide_eq_true_eq] at h2; omega
    · obtain ⟨i1, i2⟩ := bj_min (s := s) (t := t) (by omega) h0 hg
      split
      · rename_i h1
        simp only [Bool.and_eq_true, Bool.or_eq_true, decide_eq_true_eq] at h1
        rcases h1.2 with h2 | h2
        · exact absurd h2 i1
        · refine ⟨fun e0 => ?_, ?_⟩
          · subst e0
            have := bj_lt (cs := cs) (kind := kind) (miles := miles) (n := n) (s := 0)
            omega
          · unfold ahd at h2
            split at h2
            · omega
            · simp only [decide_eq_true_eq] at h2; omega
      · exact ⟨i1, i2⟩

/-- Two lists that JointBest takes. -/
def jOk (cs : List Int) (n : Nat) (miles : Int) : Bool := spB 10 cs n && inB miles 1 500
def bestJ (cs : List Int) (n : Nat) (kind miles : Int) : Nat := if jOk cs n miles then bj cs kind miles n (2 ^ n) else 0
theorem bestJ_lt {cs : List Int} {n : Nat} {kind miles : Int} : bestJ cs n kind miles < 2 ^ n := by
  have := Nat.two_pow_pos n
  unfold bestJ
  split
  · rcases bj_lt (cs := cs) (kind := kind) (miles := miles) (n := n) (s := 2 ^ n) with h | h <;> omega
  · omega
/-- What JointBest and JointFewest answer. -/
def jbL (cs : List Int) (n : Nat) (kind miles : Int) : List Int := bitsL (bestJ cs n kind miles) n
def jbB (cs : List Int) (n : Nat) (kind miles : Int) : Bool := decide (bestJ cs n kind miles ≠ 0)
def jfI (cs : List Int) (n : Nat) (kind miles : Int) : Int := if bestJ cs n kind miles = 0 then -1 else ((jbL cs n kind miles).length : Int) - 1

end Go.Proofs.YthbkimojbbkeiaaDoor
