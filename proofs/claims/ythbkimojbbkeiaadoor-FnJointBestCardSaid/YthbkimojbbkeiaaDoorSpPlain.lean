/- Plain facts on spares, given as flat lists (miles and kind of each), and on servings; nothing of the program. -/
import Derived.Test.YthbkimojbbkeiaaDoorPlain
namespace Go.Proofs.YthbkimojbbkeiaaDoor

def smi (cs : List Int) (i : Nat) : Int := gi cs (i * 2)
def ski (cs : List Int) (i : Nat) : Int := gi cs (i * 2 + 1)

def spOk (cs : List Int) (i : Nat) : Prop := (1 ≤ smi cs i ∧ smi cs i ≤ 50) ∧ (0 ≤ ski cs i ∧ ski cs i ≤ 3)
instance (cs : List Int) (i : Nat) : Decidable (spOk cs i) := by unfold spOk; infer_instance
/-- The first k are lengths. -/
def spTo (cs : List Int) (k : Nat) : Prop := ∀ i, i < k → spOk cs i
instance (cs : List Int) (k : Nat) : Decidable (spTo cs k) := by unfold spTo; infer_instance
/-- A list of n lengths, at most so many. -/
def spB (most : Int) (cs : List Int) (n : Nat) : Bool := decide ((n : Int) ≤ most ∧ spTo cs n)
theorem spB_true {most : Int} {cs : List Int} {n : Nat} : spB most cs n = true ↔ (n : Int) ≤ most ∧ spTo cs n := by simp [spB]
theorem spB_no_at {most : Int} {cs : List Int} {n k : Nat} (hk : k < n) (h : ¬ spOk cs k) : spB most cs n = false := by
  cases e : spB most cs n with
  | false => rfl
  | true => exact absurd ((spB_true.1 e).2 k hk) h
theorem spB_no_len {most : Int} {cs : List Int} {n : Nat} (h : ¬ (n : Int) ≤ most) : spB most cs n = false := by
  cases e : spB most cs n with
  | false => rfl
  | true => exact absurd (spB_true.1 e).1 h
theorem spB_all {most : Int} {cs : List Int} {n : Nat} (h : spTo cs n) : spB most cs n = decide ((n : Int) ≤ most) := by
  rw [Bool.eq_iff_iff, spB_true, decide_eq_true_eq]
  exact ⟨fun h => h.1, fun h1 => ⟨h1, h⟩⟩
theorem spTo_zero (cs : List Int) : spTo cs 0 := fun i hi => absurd hi (by omega)
theorem spTo_succ {cs : List Int} {k : Nat} (h : spTo cs k) (h1 : spOk cs k) : spTo cs (k + 1) := fun i hi => by
  by_cases e : i = k
  · subst e; exact h1
  · exact h i (by omega)
theorem spTo_mono {cs : List Int} {k m : Nat} (h : spTo cs k) (hm : m ≤ k) : spTo cs m := fun i hi => h i (by omega)
theorem spOk_no {cs : List Int} {k : Nat} (h : inB (smi cs k) 1 50 = false ∨ inB (ski cs k) 0 3 = false) : ¬ spOk cs k := by
  rintro ⟨h1, h2⟩
  rw [← inB_true] at h1 h2
  rcases h with h | h <;> simp_all
theorem spOk_yes {cs : List Int} {k : Nat} (h1 : inB (smi cs k) 1 50 = true) (h2 : inB (ski cs k) 0 3 = true) : spOk cs k := ⟨inB_true.1 h1, inB_true.1 h2⟩

/-- The miles of a kind among the first k. -/
def kmTo (cs : List Int) (kind : Int) : Nat → Int
  | 0 => 0
  | k + 1 => if ski cs k = kind then kmTo cs kind k + smi cs k else kmTo cs kind k
theorem kmTo_bd {cs : List Int} {kind : Int} : ∀ {k : Nat}, spTo cs k → 0 ≤ kmTo cs kind k ∧ kmTo cs kind k ≤ 50 * k
  | 0, _ => by simp [kmTo]
  | k + 1, h => by
    have h1 := kmTo_bd (kind := kind) (spTo_mono h (Nat.le_succ k))
    have h2 := (h k (by omega)).1
    simp only [kmTo]
    split <;> omega
/-- What SparesMiles answers. -/
def kmI (cs : List Int) (n : Nat) (kind : Int) : Int := if spB 10 cs n then kmTo cs kind n else -1
theorem kmI_no {cs : List Int} {n : Nat} {kind : Int} (h : spB 10 cs n = false) : kmI cs n kind = -1 := by simp [kmI, h]
theorem kmI_yes {cs : List Int} {n : Nat} {kind : Int} (h : spB 10 cs n = true) : kmI cs n kind = kmTo cs kind n := by simp [kmI, h]
theorem kmI_bd {cs : List Int} {n : Nat} {kind : Int} : -1 ≤ kmI cs n kind ∧ kmI cs n kind ≤ 500 := by
  cases h : spB 10 cs n with
  | false => rw [kmI_no h]; omega
  | true =>
    rw [kmI_yes h]
    have h1 := spB_true.1 h
    have := kmTo_bd (kind := kind) h1.2
    omega

/-- A spare of so many miles and of a kind serves a need. -/
def srB (m k nm nk : Int) : Bool := decide (k = nk) && decide (nm ≤ m)
theorem srB_true {m k nm nk : Int} : srB m k nm nk = true ↔ k = nk ∧ nm ≤ m := by simp [srB]

/-- The best of the first k spares for a need, or -1. -/
def fitTo (cs : List Int) (nm nk : Int) : Nat → Int
  | 0 => -1
  | k + 1 => if srB (smi cs k) (ski cs k) nm nk && (decide (fitTo cs nm nk k < 0) || decide (smi cs k < smi cs (fitTo cs nm nk k).toNat)) then (k : Int) else fitTo cs nm nk k
theorem fitTo_bd {cs : List Int} {nm nk : Int} : ∀ {k : Nat}, -1 ≤ fitTo cs nm nk k ∧ fitTo cs nm nk k < k
  | 0 => by simp [fitTo]
  | k + 1 => by
    have := fitTo_bd (cs := cs) (nm := nm) (nk := nk) (k := k)
    simp only [fitTo]
    split <;> omega
/-- Two lists that SparesFit takes. -/
def fitOk (cs : List Int) (n : Nat) (nm nk : Int) : Bool := spB 10 cs n && (inB nm 1 50 && inB nk 0 3)
def fitR (cs : List Int) (n : Nat) (nm nk : Int) : Int := if fitOk cs n nm nk then fitTo cs nm nk n else -1
/-- What SparesFit answers. -/
def fitI (cs : List Int) (n : Nat) (nm nk : Int) : Int := if fitR cs n nm nk < 0 then 0 else fitR cs n nm nk
def fitB (cs : List Int) (n : Nat) (nm nk : Int) : Bool := decide (0 ≤ fitR cs n nm nk)

/-- What the best of the first k is. -/
theorem fitTo_best {cs : List Int} {nm nk : Int} : ∀ {k : Nat}, (fitTo cs nm nk k < 0 → ∀ i, i < k → srB (smi cs i) (ski cs i) nm nk = false) ∧
    (0 ≤ fitTo cs nm nk k → srB (smi cs (fitTo cs nm nk k).toNat) (ski cs (fitTo cs nm nk k).toNat) nm nk = true ∧
      ∀ i, i < k → srB (smi cs i) (ski cs i) nm nk = true → smi cs (fitTo cs nm nk k).toNat ≤ smi cs i ∧ (i < (fitTo cs nm nk k).toNat → smi cs (fitTo cs nm nk k).toNat < smi cs i))
  | 0 => by simp [fitTo]
  | k + 1 => by
    obtain ⟨h1, h2⟩ := fitTo_best (cs := cs) (nm := nm) (nk := nk) (k := k)
    have hb := fitTo_bd (cs := cs) (nm := nm) (nk := nk) (k := k)
    simp only [fitTo]
    revert h1 h2 hb
    generalize fitTo cs nm nk k = b
    intro h1 h2 hb
    cases hs : srB (smi cs k) (ski cs k) nm nk with
    | false =>
      simp only [Bool.false_and, Bool.false_eq_true, if_false]
      refine ⟨fun h i hi => ?_, fun h => ⟨(h2 h).1, fun i hi hsi => ?_⟩⟩
      · by_cases e : i = k
        · subst e; exact hs
        · exact h1 h i (by omega)
      · by_cases e : i = k
        · subst e; rw [hs] at hsi; cases hsi
        · exact (h2 h).2 i (by omega) hsi
    | true =>
      simp only [Bool.true_and]
      by_cases hb0 : b < 0
      · simp only [decide_eq_true hb0, Bool.true_or, if_true]
        refine ⟨fun h => by omega, fun _ => ⟨hs, fun i hi hsi => ?_⟩⟩
        by_cases e : i = k
        · subst e; exact ⟨Int.le_refl _, fun h => by omega⟩
        · have := h1 hb0 i (by omega)
          rw [this] at hsi; cases hsi
      · obtain ⟨h3, h4⟩ := h2 (by omega)
        by_cases hl : smi cs k < smi cs b.toNat
        · simp only [decide_eq_false hb0, decide_eq_true hl, Bool.or_true, if_true]
          refine ⟨fun h => by omega, fun _ => ⟨hs, fun i hi hsi => ?_⟩⟩
          by_cases e : i = k
          · subst e; exact ⟨Int.le_refl _, fun h => by omega⟩
          · have := (h4 i (by omega) hsi).1
            have hk : ((k : Int)).toNat = k := by omega
            rw [hk]
            exact ⟨by omega, fun _ => by omega⟩
        · simp only [decide_eq_false hb0, decide_eq_false hl, Bool.or_false, Bool.false_eq_true, if_false]
          refine ⟨fun h => by omega, fun _ => ⟨h3, fun i hi hsi => ?_⟩⟩
          by_cases e : i = k
          · subst e; exact ⟨by omega, fun h => by omega⟩
          · exact h4 i (by omega) hsi

end Go.Proofs.YthbkimojbbkeiaaDoor
