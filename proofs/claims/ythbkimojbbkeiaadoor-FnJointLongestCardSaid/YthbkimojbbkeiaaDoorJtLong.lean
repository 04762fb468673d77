/- Plain law on joints: as few splices as the longest spares of the kind need. -/
import Derived.Test.YthbkimojbbkeiaaDoorJtLaw
namespace Go.Proofs.YthbkimojbbkeiaaDoor

def sL : List Int → Int
  | [] => 0
  | a :: l => a + sL l
theorem sL_app (a b : List Int) : sL (a ++ b) = sL a + sL b := by
  induction a with
  | nil => simp [sL]
  | cons x l ih => simp only [List.cons_append, sL, ih]; omega
theorem shift_sub {d : Int} {D : List Int} (hd : ∀ x ∈ D, x ≤ d) : ∀ {t : Nat}, t ≤ D.length → sL (D.take t) ≤ sL ((d :: D).take t)
  | 0, _ => by simp [sL]
  | t + 1, h => by
    rw [List.take_succ_eq_append_getElem (by omega), List.take_succ_cons, sL_app, sL]
    have := hd _ (List.getElem_mem (l := D) (n := t) (by omega))
    simp only [sL]
    omega
/-- The longest are the longest. -/
theorem desc_sub : ∀ {D S : List Int}, D.Pairwise (· ≥ ·) → S.Sublist D → sL S ≤ sL (D.take S.length)
  | _, _, _, .slnil => by simp [sL]
  | d :: D, S, h, .cons _ hs => by
    have h1 := List.pairwise_cons.1 h
    exact Int.le_trans (desc_sub h1.2 hs) (shift_sub h1.1 hs.length_le)
  | d :: D, _ :: S, h, .cons_cons _ hs => by
    have h1 := List.pairwise_cons.1 h
    have := desc_sub h1.2 hs
    rw [List.length_cons, List.take_succ_cons, sL, sL]
    omega
theorem sL_perm {a b : List Int} (h : a.Perm b) : sL a = sL b := by
  induction h with
  | nil => rfl
  | cons x _ ih => simp only [sL, ih]
  | swap x y l => simp only [sL]; omega
  | trans _ _ h1 h2 => rw [h1, h2]

theorem vb_len {cs : List Int} {s : Nat} : ∀ {n : Nat}, (vb cs s n).length = (bitsL s n).length
  | 0 => rfl
  | n + 1 => by
    rw [vb, bitsL]
    split
    · rw [List.length_append, List.length_append, vb_len]; rfl
    · exact vb_len
theorem vb_sum {cs : List Int} {s : Nat} : ∀ {n : Nat}, sL ((vb cs s n).map (·.1)) = ssTo cs s n
  | 0 => rfl
  | n + 1 => by
    rw [vb, ssTo]
    split
    · rw [List.map_append, sL_app, vb_sum]; simp [sL]
    · exact vb_sum
theorem vb_sk {cs : List Int} {kind : Int} {s : Nat} : ∀ {n : Nat}, (∀ p ∈ vb cs s n, p.2 = kind) ↔ skTo cs kind s n
  | 0 => by simp [vb, skTo]
  | n + 1 => by
    have ih := vb_sk (cs := cs) (kind := kind) (s := s) (n := n)
    rw [vb]
    split
    · rename_i ht
      constructor
      · intro h i hi hb
        by_cases e : i = n
        · subst e; exact h _ (List.mem_append_right _ (List.mem_cons_self ..))
        · exact ih.1 (fun p hp => h p (List.mem_append_left _ hp)) i (by omega) hb
      · intro h p hp
        rcases List.mem_append.1 hp with hp | hp
        · exact ih.2 (fun i hi hb => h i (by omega) hb) p hp
        · rw [List.mem_singleton] at hp
          subst hp
          exact h n (by omega) ht
    · rename_i ht
      rw [ih]
      constructor
      · intro h i hi hb
        by_cases e : i = n
        · subst e; exact absurd hb ht
        · exact h i (by omega) hb
      · intro h i hi hb; exact h i (by omega) hb
theorem vb_sub (cs : List Int) (s : Nat) : ∀ n, (vb cs s n).Sublist (prs cs n)
  | 0 => List.Sublist.slnil
  | n + 1 => by
    rw [vb, prs_succ]
    split
    · exact (vb_sub cs s n).append (List.Sublist.refl _)
    · exact List.sublist_append_of_sublist_left (vb_sub cs s n)
theorem vb_congr {cs : List Int} {s t : Nat} : ∀ {n : Nat}, (∀ i, i < n → s.testBit i = t.testBit i) → vb cs s n = vb cs t n
  | 0, _ => rfl
  | n + 1, h => by rw [vb, vb, vb_congr (fun i hi => h i (by omega)), h n (by omega)]
theorem vb_of {cs : List Int} : ∀ {n : Nat} {L : List (Int × Int)}, L.Sublist (prs cs n) → ∃ t, t < 2 ^ n ∧ vb cs t n = L
  | 0, L, h => by
    have : L = [] := List.eq_nil_of_sublist_nil h
    exact ⟨0, by simp, this.symm⟩
  | n + 1, L, h => by
    rw [prs_succ, List.sublist_append_iff] at h
    obtain ⟨l1, l2, rfl, h1, h2⟩ := h
    obtain ⟨t, ht, e⟩ := vb_of h1
    have hb : t.testBit n = false := Nat.testBit_lt_two_pow ht
    have hp : 2 ^ n < 2 ^ (n + 1) := Nat.pow_lt_pow_right (by omega) (by omega)
    cases h2 with
    | cons _ h3 =>
      have : l2 = [] := List.eq_nil_of_sublist_nil h3
      subst this
      refine ⟨t, by omega, ?_⟩
      rw [vb, hb, e]; simp
    | cons_cons _ h3 =>
      have := List.eq_nil_of_sublist_nil h3
      subst this
      refine ⟨t ||| 2 ^ n, Nat.or_lt_two_pow (by omega) hp, ?_⟩
      have hbn : (t ||| 2 ^ n).testBit n = true := by rw [Nat.testBit_or, Nat.testBit_two_pow]; simp
      rw [vb, if_pos hbn, vb_congr (t := t) ?_, e]
      intro i hi
      rw [Nat.testBit_or, Nat.testBit_two_pow]
      have : ¬ n = i := by omega
      simp [this]

/-- The miles of a kind, in their order. -/
def dk (kind : Int) (l : List (Int × Int)) : List Int := (l.filter fun p => decide (p.2 = kind)).map (·.1)
theorem dk_app (kind : Int) (a b : List (Int × Int)) : dk kind (a ++ b) = dk kind a ++ dk kind b := by simp [dk]
theorem dk_desc {kind : Int} {l : List (Int × Int)} (h : Srt l) : (dk kind l).Pairwise (· ≥ ·) := by
  unfold dk
  rw [List.pairwise_map]
  refine List.Pairwise.imp_of_mem ?_ (h.filter _)
  intro a b ha hb hab
  have h1 := (List.mem_filter.1 ha).2
  have h2 := (List.mem_filter.1 hb).2
  simp only [decide_eq_true_eq] at h1 h2
  unfold key at hab
  show b.1 ≤ a.1
  omega

theorem filter_all {kind : Int} {l : List (Int × Int)} (h : ∀ p ∈ l, p.2 = kind) : l.filter (fun p => decide (p.2 = kind)) = l := List.filter_eq_self.2 fun p hp => by simp [h p hp]
/-- The best joint against the longest spares of the kind. -/
theorem top_law {cs : List Int} {n : Nat} {kind miles : Int} (h : bestJ cs n kind miles ≠ 0) :
    miles ≤ sL ((dk kind (srtTo (prs cs n) 200)).take (jbL cs n kind miles).length) ∧ (jbL cs n kind miles).length ≤ (dk kind (srtTo (prs cs n) 200)).length ∧
    ∀ t, t < (jbL cs n kind miles).length → sL ((dk kind (srtTo (prs cs n) 200)).take t) < miles := by
  obtain ⟨⟨hc, hn⟩, hm, hk, hs, hmin⟩ := best_is h
  have hperm := srtTo_perm (prs_ok hc)
  have hdesc := dk_desc (kind := kind) (srtTo_srt (prs cs n) 200)
  have hlt := bestJ_lt (cs := cs) (n := n) (kind := kind) (miles := miles)
  obtain ⟨B, hB1, hB2⟩ := List.exists_perm_sublist (vb_sub cs (bestJ cs n kind miles) n) hperm.symm
  have hBk : ∀ p ∈ B, p.2 = kind := fun p hp => vb_sk.2 hk p (hB1.mem_iff.1 hp)
  have hBs : (B.map (·.1)).Sublist (dk kind (srtTo (prs cs n) 200)) := by
    have := (hB2.filter fun p => decide (p.2 = kind)).map (·.1)
    rwa [filter_all hBk] at this
  have hBl : (B.map (·.1)).length = (jbL cs n kind miles).length := by
    rw [List.length_map, hB1.length_eq, vb_len]; rfl
  have hBsum : sL (B.map (·.1)) = ssTo cs (bestJ cs n kind miles) n := by
    rw [sL_perm (hB1.map _), vb_sum]
  have h1 := desc_sub hdesc hBs
  rw [hBl, hBsum] at h1
  refine ⟨by omega, by rw [← hBl]; exact hBs.length_le, fun t ht => ?_⟩
  by_cases hlt2 : sL ((dk kind (srtTo (prs cs n) 200)).take t) < miles
  · exact hlt2
  · exfalso
    have hsub : (((srtTo (prs cs n) 200).filter fun p => decide (p.2 = kind)).take t).Sublist (srtTo (prs cs n) 200) := (List.take_sublist _ _).trans List.filter_sublist
    obtain ⟨T, hT1, hT2⟩ := List.exists_perm_sublist hsub hperm
    obtain ⟨s, hs2, e⟩ := vb_of hT2
    have hTk : skTo cs kind s n := by
      refine vb_sk.1 fun p hp => ?_
      rw [e] at hp
      have := List.mem_of_mem_take (hT1.mem_iff.1 hp)
      simpa using (List.mem_filter.1 this).2
    have hTs : ssTo cs s n = sL ((dk kind (srtTo (prs cs n) 200)).take t) := by
      rw [← vb_sum, e, sL_perm (hT1.map _), List.map_take]; rfl
    have hTl : (bitsL s n).length ≤ t := by
      rw [← vb_len (cs := cs), e, hT1.length_eq, List.length_take]; omega
    have := hmin s hs2 hTk (by omega)
    omega

/-- The loop of the law: how far the longest are summed up. -/
def lgTo (ds : List Int) (kind : Int) (out : Nat) : Nat → Int × Nat
  | 0 => (0, 0)
  | i + 1 => if ski ds i = kind ∧ (lgTo ds kind out i).2 ≤ out then ((lgTo ds kind out i).1 + smi ds i, (lgTo ds kind out i).2 + 1) else lgTo ds kind out i
theorem lgTo_is {ds : List Int} {kind : Int} {out : Nat} : ∀ i, lgTo ds kind out i = (sL ((dk kind (prs ds i)).take (out + 1)), min (dk kind (prs ds i)).length (out + 1))
  | 0 => by simp [lgTo, prs, dk, sL]
  | i + 1 => by
    rw [lgTo, lgTo_is i, prs_succ, dk_app]
    simp only
    by_cases hk : ski ds i = kind
    · have e : dk kind [(smi ds i, ski ds i)] = [smi ds i] := by simp [dk, hk]
      rw [e]
      by_cases hl : (dk kind (prs ds i)).length ≤ out
      · rw [if_pos ⟨hk, by omega⟩, List.take_of_length_le (by omega), List.take_of_length_le (by rw [List.length_append, List.length_singleton]; omega), sL_app, List.length_append, List.length_singleton]
        have h1 : sL [smi ds i] = smi ds i := by simp [sL]
        rw [h1, show min (dk kind (prs ds i)).length (out + 1) + 1 = min ((dk kind (prs ds i)).length + 1) (out + 1) by omega]
      · rw [if_neg (by omega), List.take_append_of_le_length (by omega), List.length_append, List.length_singleton, show min (dk kind (prs ds i)).length (out + 1) = min ((dk kind (prs ds i)).length + 1) (out + 1) by omega]
    · have e : dk kind [(smi ds i, ski ds i)] = [] := by simp [dk, hk]
      rw [if_neg (fun h => hk h.1), e, List.append_nil]
theorem prs_pre {ds : List Int} {n i : Nat} (h : i ≤ n) : prs ds i = (prs ds n).take i := by
  apply List.ext_getElem?
  intro j
  by_cases hj : j < i
  · rw [List.getElem?_take_of_lt hj, prs_get hj, prs_get (by omega)]
  · rw [List.getElem?_eq_none (by rw [prs_len]; omega), List.getElem?_eq_none (by rw [List.length_take, prs_len]; omega)]
theorem lg_law {cs : List Int} {n : Nat} {kind miles : Int} (h : bestJ cs n kind miles ≠ 0) {out : Nat} (ho : (jbL cs n kind miles).length = out + 1) :
    (∀ i, i ≤ n → (lgTo (srtL cs n) kind out i).2 = out → (lgTo (srtL cs n) kind out i).1 < miles) ∧ miles ≤ (lgTo (srtL cs n) kind out n).1 ∧ (lgTo (srtL cs n) kind out n).2 = out + 1 := by
  obtain ⟨h1, h2, h3⟩ := top_law h
  rw [ho] at h1 h2 h3
  obtain ⟨⟨hc, hn⟩, -⟩ := best_is h
  have hsp : spB 10 cs n = true := spB_true.2 ⟨by omega, hc⟩
  have e : srtL cs n = fl (srtTo (prs cs n) 200) := by unfold srtL; rw [if_pos hsp]
  have hl : (srtTo (prs cs n) 200).length = n := by rw [(srtTo_perm (prs_ok hc)).length_eq, prs_len]
  have hp : prs (srtL cs n) n = srtTo (prs cs n) 200 := by
    have := prs_fl (srtTo (prs cs n) 200)
    rwa [hl, ← e] at this
  refine ⟨fun i hi => ?_, ?_, ?_⟩
  · rw [lgTo_is]
    simp only
    intro hout
    have e2 : dk kind (prs (srtL cs n) i) = (dk kind (srtTo (prs cs n) 200)).take out := by
      have e3 : dk kind (srtTo (prs cs n) 200) = dk kind (prs (srtL cs n) i) ++ dk kind ((srtTo (prs cs n) 200).drop i) := by
        rw [prs_pre hi, hp, ← dk_app, List.take_append_drop]
      rw [e3, List.take_append_of_le_length (by omega), List.take_of_length_le (by omega)]
    rw [List.take_of_length_le (by omega), e2]
    exact h3 out (by omega)
  · simp only [lgTo_is, hp]; exact h1
  · simp only [lgTo_is, hp]; omega

end Go.Proofs.YthbkimojbbkeiaaDoor
