/- Plain facts on sorting spares: lists of pairs, the order, sorted lists with the same elements; nothing of the program. -/
import Derived.Test.YthbkimojbbkeiaaDoorSvPlain
namespace Go.Proofs.YthbkimojbbkeiaaDoor

/-- The pairs of a flat list. -/
def prs (cs : List Int) (n : Nat) : List (Int × Int) := (List.range n).map fun i => (smi cs i, ski cs i)
def fl : List (Int × Int) → List Int
  | [] => []
  | p :: l => p.1 :: p.2 :: fl l
theorem fl_app (a b : List (Int × Int)) : fl (a ++ b) = fl a ++ fl b := by
  induction a with
  | nil => rfl
  | cons p l ih => simp [fl, ih]
theorem fl_len (a : List (Int × Int)) : (fl a).length = a.length * 2 := by
  induction a with
  | nil => rfl
  | cons p l ih => simp [fl, ih]; omega
theorem prs_len (cs : List Int) (n : Nat) : (prs cs n).length = n := by simp [prs]
theorem prs_get {cs : List Int} {n i : Nat} (h : i < n) : (prs cs n)[i]? = some (smi cs i, ski cs i) := by simp [prs, h]
theorem prs_succ (cs : List Int) (n : Nat) : prs cs (n + 1) = prs cs n ++ [(smi cs n, ski cs n)] := by simp [prs, List.range_succ]
theorem fl_gi : ∀ (l : List (Int × Int)) (i : Nat) (p : Int × Int), l[i]? = some p → smi (fl l) i = p.1 ∧ ski (fl l) i = p.2
  | [], i, p, h => by simp at h
  | q :: l, 0, p, h => by simp at h; subst h; simp [fl, smi, ski, gi]
  | q :: l, i + 1, p, h => by
    have h' : l[i]? = some p := by simpa using h
    have := fl_gi l i p h'
    have e1 : (i + 1) * 2 = i * 2 + 1 + 1 := by omega
    simp only [smi, ski, gi, fl, e1, List.getElem?_cons_succ] at this ⊢
    exact this
theorem fl_prs {cs : List Int} {n : Nat} (h : cs.length = n * 2) : fl (prs cs n) = cs := by
  apply ext_gi
  · rw [fl_len, prs_len, h]
  · intro k hk
    rw [fl_len, prs_len] at hk
    obtain ⟨h1, h2⟩ := fl_gi (prs cs n) (k / 2) _ (prs_get (by omega))
    rcases Nat.mod_two_eq_zero_or_one k with e | e
    · rw [show k = k / 2 * 2 by omega]; exact h1
    · rw [show k = k / 2 * 2 + 1 by omega]; exact h2
theorem prs_fl (l : List (Int × Int)) : prs (fl l) l.length = l := by
  apply List.ext_getElem?
  intro i
  by_cases h : i < l.length
  · rw [prs_get h, List.getElem?_eq_getElem h]
    obtain ⟨h1, h2⟩ := fl_gi l i _ (List.getElem?_eq_getElem h)
    rw [h1, h2]
  · rw [List.getElem?_eq_none (by rw [prs_len]; omega), List.getElem?_eq_none (by omega)]
theorem prs_inj {cs ds : List Int} {n : Nat} (h1 : cs.length = n * 2) (h2 : ds.length = n * 2) (h : prs cs n = prs ds n) : cs = ds := by
  rw [← fl_prs h1, ← fl_prs h2, h]

/-- The place of a spare in the order: by kind, then the longest first. -/
def key (p : Int × Int) : Int := p.2 * 50 + (50 - p.1)
def pOk (p : Int × Int) : Prop := (1 ≤ p.1 ∧ p.1 ≤ 50) ∧ (0 ≤ p.2 ∧ p.2 ≤ 3)
theorem key_inj {p q : Int × Int} (hp : pOk p) (hq : pOk q) (h : key p = key q) : p = q := by
  obtain ⟨a, b⟩ := p
  obtain ⟨c, d⟩ := q
  simp only [pOk, key] at hp hq h
  have : b = d := by omega
  have : a = c := by omega
  simp_all
theorem prs_ok {cs : List Int} {n : Nat} (h : spTo cs n) : ∀ p ∈ prs cs n, pOk p := by
  intro p hp
  simp only [prs, List.mem_map, List.mem_range] at hp
  obtain ⟨i, hi, rfl⟩ := hp
  exact h i hi
theorem prs_of_ok {cs : List Int} {n : Nat} (h : ∀ p ∈ prs cs n, pOk p) : spTo cs n := fun i hi => h (smi cs i, ski cs i) (by simp only [prs, List.mem_map, List.mem_range]; exact ⟨i, hi, rfl⟩)

/-- In order. -/
def Srt (l : List (Int × Int)) : Prop := l.Pairwise fun p q => key p ≤ key q
theorem srt_eq : ∀ {a b : List (Int × Int)}, Srt a → Srt b → a.Perm b → (∀ p ∈ a, pOk p) → a = b
  | [], b, _, _, h, _ => (List.Perm.nil_eq h)
  | p :: a, [], _, _, h, _ => absurd h.length_eq (by simp)
  | p :: a, q :: b, ha, hb, h, ho => by
    have h1 := List.pairwise_cons.1 ha
    have h2 := List.pairwise_cons.1 hb
    have hq : q ∈ p :: a := h.mem_iff.2 (List.mem_cons_self ..)
    have hp : p ∈ q :: b := h.mem_iff.1 (List.mem_cons_self ..)
    have e : p = q := by
      rcases List.mem_cons.1 hq with e | hq'
      · exact e.symm
      · rcases List.mem_cons.1 hp with e | hp'
        · exact e
        · have k1 := h1.1 q hq'
          have k2 := h2.1 p hp'
          exact key_inj (ho p (List.mem_cons_self ..)) (ho q hq) (by omega)
    subst e
    rw [srt_eq h1.2 h2.2 (List.Perm.cons_inv h) (fun x hx => ho x (List.mem_cons_of_mem _ hx))]

/-- All spares with a place below K, in order. -/
def srtTo (l : List (Int × Int)) : Nat → List (Int × Int)
  | 0 => []
  | K + 1 => srtTo l K ++ l.filter fun p => key p == (K : Int)
theorem srtTo_mem {l : List (Int × Int)} {p : Int × Int} : ∀ {K : Nat}, p ∈ srtTo l K → p ∈ l ∧ key p < K
  | 0, h => by simp [srtTo] at h
  | K + 1, h => by
    rw [srtTo, List.mem_append] at h
    rcases h with h | h
    · have := srtTo_mem h
      exact ⟨this.1, by omega⟩
    · simp only [List.mem_filter, beq_iff_eq] at h
      exact ⟨h.1, by omega⟩
theorem srtTo_srt (l : List (Int × Int)) : ∀ K, Srt (srtTo l K)
  | 0 => List.Pairwise.nil
  | K + 1 => by
    refine List.pairwise_append.2 ⟨srtTo_srt l K, ?_, ?_⟩
    · refine List.pairwise_iff_forall_sublist.2 fun {a b} hs => ?_
      have h1 := hs.subset (List.mem_cons_self ..)
      have h2 := hs.subset (List.mem_cons_of_mem _ (List.mem_cons_self ..))
      simp only [List.mem_filter, beq_iff_eq] at h1 h2
      omega
    · intro a ha b hb
      have h1 := (srtTo_mem ha).2
      simp only [List.mem_filter, beq_iff_eq] at hb
      omega
theorem srtTo_cnt (l : List (Int × Int)) (p : Int × Int) : ∀ K : Nat, 0 ≤ key p → (srtTo l K).count p = if key p < K then l.count p else 0
  | 0, h => by rw [if_neg (by omega)]; rfl
  | K + 1, h => by
    rw [srtTo, List.count_append, srtTo_cnt l p K h]
    by_cases e : key p = K
    · rw [if_neg (by omega), if_pos (by omega), List.count_filter (by simp [e])]; omega
    · have h0 : (l.filter fun q => key q == (K : Int)).count p = 0 := List.count_eq_zero.2 fun hm => by
        simp only [List.mem_filter, beq_iff_eq] at hm
        exact e hm.2
      rw [h0]
      by_cases hl : key p < K
      · rw [if_pos hl, if_pos (by omega)]; rfl
      · rw [if_neg hl, if_neg (by omega)]
theorem srtTo_perm {l : List (Int × Int)} (ho : ∀ p ∈ l, pOk p) : (srtTo l 200).Perm l := by
  refine List.perm_iff_count.2 fun p => ?_
  by_cases hp : p ∈ l
  · have := ho p hp
    unfold pOk at this
    rw [srtTo_cnt l p 200 (by unfold key; omega), if_pos (by unfold key; omega)]
  · rw [List.count_eq_zero.2 hp, List.count_eq_zero.2 fun h => hp (srtTo_mem h).1]
/-- What is in order and has the same elements is that list. -/
theorem srt_is {l s : List (Int × Int)} (ho : ∀ p ∈ l, pOk p) (hs : Srt s) (hp : s.Perm l) : s = srtTo l 200 :=
  srt_eq hs (srtTo_srt l 200) (hp.trans (srtTo_perm ho).symm) (fun p h => ho p (hp.mem_iff.1 h))
/-- What SparesSort answers, as a flat list. -/
def srtL (cs : List Int) (n : Nat) : List Int := if spB 10 cs n then fl (srtTo (prs cs n) 200) else []
def srtN (cs : List Int) (n : Nat) : Nat := if spB 10 cs n then n else 0

/-- In order but for what comes before place j, among the first i + 1 of a function. -/
def SrtBut (f : Nat → Int) (i j : Nat) : Prop := ∀ a b, a < b → b ≤ i → b ≠ j → f a ≤ f b
theorem srtBut_start {f : Nat → Int} {i : Nat} (h : ∀ a b, a < b → b < i → f a ≤ f b) : SrtBut f i i := fun a b hab hb hne => h a b hab (by omega)
theorem srtBut_stop {f : Nat → Int} {i j : Nat} (h : SrtBut f i j) (hj : j ≤ i) (hs : j = 0 ∨ f (j - 1) ≤ f j) : ∀ a b, a < b → b < i + 1 → f a ≤ f b := fun a b hab hb => by
  by_cases e : b = j
  · subst e
    rcases hs with e | hs
    · omega
    · by_cases ea : a = b - 1
      · subst ea; exact hs
      · have := h a (b - 1) (by omega) (by omega) (by omega); omega
  · exact h a b hab (by omega) e
theorem srtBut_swap {f g : Nat → Int} {i j : Nat} (h : SrtBut f i j) (h0 : 0 < j) (hj : j ≤ i) (hlt : f j < f (j - 1)) (g1 : g j = f (j - 1)) (g2 : g (j - 1) = f j) (g3 : ∀ a, a ≠ j → a ≠ j - 1 → g a = f a) : SrtBut g i (j - 1) := fun a b hab hb hne => by
  by_cases eb : b = j
  · subst eb
    rw [g1]
    by_cases ea : a = b - 1
    · subst ea; rw [g2]; omega
    · rw [g3 a (by omega) ea]; exact h a (b - 1) (by omega) (by omega) (by omega)
  · rw [g3 b eb hne]
    by_cases ea : a = j
    · subst ea; rw [g1]
      exact h (a - 1) b (by omega) hb eb
    · by_cases ea2 : a = j - 1
      · subst ea2; rw [g2]
        exact h j b (by omega) hb eb
      · rw [g3 a ea ea2]; exact h a b hab hb eb
theorem srt_of_fn {cs : List Int} {n : Nat} (h : ∀ a b, a < b → b < n → key (smi cs a, ski cs a) ≤ key (smi cs b, ski cs b)) : Srt (prs cs n) := by
  unfold Srt prs
  rw [List.pairwise_map]
  refine List.Pairwise.imp_of_mem (R := fun a b => a < b) ?_ List.pairwise_lt_range
  intro a b ha hb hab
  exact h a b hab (List.mem_range.1 hb)
theorem fn_of_srt {cs : List Int} {n : Nat} (h : Srt (prs cs n)) {a b : Nat} (hab : a < b) (hb : b < n) : key (smi cs a, ski cs a) ≤ key (smi cs b, ski cs b) := by
  have := List.pairwise_iff_getElem.1 h a b (by rw [prs_len]; omega) (by rw [prs_len]; omega) hab
  simpa [prs] using this
/-- Two pairs that change places. -/
theorem swap_perm {l : List (Int × Int)} {i j : Nat} (hi : i < l.length) (hj : j < l.length) (hne : i ≠ j) : ((l.set i l[j]).set j l[i]).Perm l := by
  refine List.perm_iff_count.2 fun p => ?_
  rw [List.count_set (by simpa using hj), List.count_set hi]
  have e : (l.set i l[j])[j]'(by simpa using hj) = l[j] := by simp [hne]
  rw [e]
  have c1 : l[i] = p → 0 < l.count p := fun h => List.count_pos_iff.2 (h ▸ List.getElem_mem hi)
  by_cases h1 : l[i] = p <;> by_cases h2 : l[j] = p
  · have := c1 h1
    simp [h1, h2]; omega
  · have := c1 h1
    simp [h1, h2]; omega
  · simp [h1, h2]
  · simp [h1, h2]

/-- Exchange of two spares in a flat list. -/
def swp (cs : List Int) (i j : Nat) : List Int := (((cs.set (i * 2) (smi cs j)).set (i * 2 + 1) (ski cs j)).set (j * 2) (smi cs i)).set (j * 2 + 1) (ski cs i)

end Go.Proofs.YthbkimojbbkeiaaDoor
