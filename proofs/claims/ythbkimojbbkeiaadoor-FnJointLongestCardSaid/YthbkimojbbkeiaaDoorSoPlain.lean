/- Plain facts on the exchange of two spares and on the order of the sort; nothing of the program. -/
import Derived.Test.YthbkimojbbkeiaaDoorSortPlain
namespace Go.Proofs.YthbkimojbbkeiaaDoor

theorem gi_set (cs : List Int) (k i : Nat) (u : Int) : gi (cs.set k u) i = if k = i ∧ k < cs.length then u else gi cs i := by
  unfold gi
  rw [List.getElem?_set]
  by_cases h : k = i
  · subst h
    by_cases h2 : k < cs.length
    · simp [h2]
    · simp [h2]
  · simp [h]
theorem swp_len (cs : List Int) (i j : Nat) : (swp cs i j).length = cs.length := by simp [swp]
theorem swp_at {cs : List Int} {n i j : Nat} (hl : cs.length = n * 2) (hi : i < n) (hj : j < n) (hne : i ≠ j) :
    (smi (swp cs i j) i = smi cs j ∧ ski (swp cs i j) i = ski cs j) ∧ (smi (swp cs i j) j = smi cs i ∧ ski (swp cs i j) j = ski cs i) ∧ ∀ a, a ≠ i → a ≠ j → smi (swp cs i j) a = smi cs a ∧ ski (swp cs i j) a = ski cs a := by
  unfold swp
  refine ⟨⟨?_, ?_⟩, ⟨?_, ?_⟩, fun a h1 h2 => ⟨?_, ?_⟩⟩
  · rw [show ∀ l, smi l i = gi l (i * 2) from fun _ => rfl, gi_set, if_neg (by omega), gi_set, if_neg (by omega), gi_set, if_neg (by omega), gi_set, if_pos (by omega)]
  · rw [show ∀ l, ski l i = gi l (i * 2 + 1) from fun _ => rfl, gi_set, if_neg (by omega), gi_set, if_neg (by omega), gi_set, if_pos (by simp; omega)]
  · rw [show ∀ l, smi l j = gi l (j * 2) from fun _ => rfl, gi_set, if_neg (by omega), gi_set, if_pos (by simp; omega)]
  · rw [show ∀ l, ski l j = gi l (j * 2 + 1) from fun _ => rfl, gi_set, if_pos (by simp; omega)]
  · rw [show ∀ l, smi l a = gi l (a * 2) from fun _ => rfl, gi_set, if_neg (by omega), gi_set, if_neg (by omega), gi_set, if_neg (by omega), gi_set, if_neg (by omega)]; rfl
  · rw [show ∀ l, ski l a = gi l (a * 2 + 1) from fun _ => rfl, gi_set, if_neg (by omega), gi_set, if_neg (by omega), gi_set, if_neg (by omega), gi_set, if_neg (by omega)]; rfl
theorem swp_perm {cs : List Int} {n i j : Nat} (hl : cs.length = n * 2) (hi : i < n) (hj : j < n) (hne : i ≠ j) : (prs (swp cs i j) n).Perm (prs cs n) := by
  obtain ⟨⟨a1, a2⟩, ⟨b1, b2⟩, c⟩ := swp_at hl hi hj hne
  have hi' : i < (prs cs n).length := by rw [prs_len]; exact hi
  have hj' : j < (prs cs n).length := by rw [prs_len]; exact hj
  have gI : (prs cs n)[i] = (smi cs i, ski cs i) := by simp [prs]
  have gJ : (prs cs n)[j] = (smi cs j, ski cs j) := by simp [prs]
  have e : prs (swp cs i j) n = ((prs cs n).set i (prs cs n)[j]).set j (prs cs n)[i] := by
    apply List.ext_getElem?
    intro k
    by_cases hk : k < n
    · rw [prs_get hk, List.getElem?_set, List.getElem?_set, prs_get hk]
      by_cases e1 : j = k
      · subst e1
        rw [if_pos rfl, if_pos (by simpa using hj'), b1, b2, gI]
      · rw [if_neg e1]
        by_cases e2 : i = k
        · subst e2
          rw [if_pos rfl, if_pos hi', a1, a2, gJ]
        · obtain ⟨c1, c2⟩ := c k (fun h => e2 h.symm) (fun h => e1 h.symm)
          rw [if_neg e2, c1, c2]
    · rw [List.getElem?_eq_none (by rw [prs_len]; omega), List.getElem?_eq_none (by simp [prs_len]; omega)]
  rw [e]
  exact swap_perm hi' hj' hne

/-- The order of the sort, by keys. -/
def kyf (cs : List Int) (a : Nat) : Int := key (smi cs a, ski cs a)
theorem swp_ky {cs : List Int} {n i j : Nat} (hl : cs.length = n * 2) (hi : i < n) (hj : j < n) (hne : i ≠ j) : kyf (swp cs i j) i = kyf cs j ∧ kyf (swp cs i j) j = kyf cs i ∧ ∀ a, a ≠ i → a ≠ j → kyf (swp cs i j) a = kyf cs a := by
  obtain ⟨⟨a1, a2⟩, ⟨b1, b2⟩, c⟩ := swp_at hl hi hj hne
  unfold kyf
  refine ⟨by rw [a1, a2], by rw [b1, b2], fun a h1 h2 => ?_⟩
  obtain ⟨c1, c2⟩ := c a h1 h2
  rw [c1, c2]
theorem spTo_perm {cs ds : List Int} {n : Nat} (h : (prs ds n).Perm (prs cs n)) (hc : spTo cs n) : spTo ds n :=
  prs_of_ok fun p hp => prs_ok hc p (h.mem_iff.1 hp)

/-- What the reference has appended ahead of spare i of place K. -/
def soTo (cs : List Int) (n K i : Nat) : List Int := fl (srtTo (prs cs n) K ++ (prs cs i).filter fun p => key p == (K : Int))
theorem soTo_zero (cs : List Int) (n K : Nat) : soTo cs n K 0 = fl (srtTo (prs cs n) K) := by simp [soTo, prs]
theorem soTo_all (cs : List Int) (n K : Nat) : soTo cs n K n = soTo cs n (K + 1) 0 := by rw [soTo_zero]; rfl
theorem soTo_yes {cs : List Int} {n K i : Nat} (h : kyf cs i = (K : Int)) : soTo cs n K (i + 1) = soTo cs n K i ++ [smi cs i, ski cs i] := by
  unfold soTo
  rw [prs_succ, List.filter_append, ← List.append_assoc, fl_app]
  congr 1
  rw [List.filter_cons_of_pos (by simpa [kyf] using h)]
  rfl
theorem soTo_no {cs : List Int} {n K i : Nat} (h : kyf cs i ≠ (K : Int)) : soTo cs n K (i + 1) = soTo cs n K i := by
  unfold soTo
  rw [prs_succ, List.filter_append, List.filter_cons_of_neg (by simpa [kyf] using h)]
  simp
theorem soTo_len {cs : List Int} {n K i : Nat} (hi : i ≤ n) (hc : spTo cs n) (hK : K < 200) : ∃ c, (soTo cs n K i).length = c * 2 ∧ c ≤ n := by
  refine ⟨_, fl_len _, ?_⟩
  have hs : (srtTo (prs cs n) K ++ (prs cs i).filter fun p => key p == (K : Int)).Sublist (srtTo (prs cs n) (K + 1)) := by
    rw [srtTo]
    refine List.Sublist.append (List.Sublist.refl _) (List.Sublist.filter _ ?_)
    unfold prs
    exact List.Sublist.map _ (List.range_sublist.2 hi)
  have hp : ∀ M, K + 1 + M ≤ 200 → (srtTo (prs cs n) (K + 1)).Sublist (srtTo (prs cs n) (K + 1 + M)) := by
    intro M
    induction M with
    | zero => intro _; exact List.Sublist.refl _
    | succ M ih =>
      intro hM
      rw [← Nat.add_assoc, srtTo]
      exact (ih (by omega)).trans (List.sublist_append_left _ _)
  have h1 := hs.length_le
  have h2 := (hp (199 - K) (by omega)).length_le
  rw [show K + 1 + (199 - K) = 200 by omega] at h2
  have h3 := (srtTo_perm (prs_ok hc)).length_eq
  rw [prs_len] at h3
  omega
/-- A spare stands at place K just where kind and miles do. -/
theorem ky_at {cs : List Int} {n i : Nat} (hc : spTo cs n) (hi : i < n) {kind miles : Nat} (hm : 1 ≤ miles) (hm2 : miles ≤ 50) : kyf cs i = ((kind * 50 + (50 - miles) : Nat) : Int) ↔ ski cs i = (kind : Int) ∧ smi cs i = (miles : Int) := by
  have := hc i hi
  unfold spOk at this
  simp only [kyf, key]
  omega

end Go.Proofs.YthbkimojbbkeiaaDoor
