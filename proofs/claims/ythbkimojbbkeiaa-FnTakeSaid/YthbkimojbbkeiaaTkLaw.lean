/- Plain laws on what is left of the spares behind taking some miles; nothing of the program. -/
import Derived.Test.YthbkimojbbkeiaaSoLaw
import Derived.Test.YthbkimojbbkeiaaTkDef
namespace Go.Proofs.Ythbkimojbbkeiaa

theorem tk_yes {cs : List Int} {n : Nat} {k miles : Int} (h : tkB cs n k miles = true) : ∃ K : Nat, k = (K : Int) ∧ K < n ∧ (1 ≤ miles ∧ miles ≤ smi cs K) ∧ spB 10 cs n = true := by
  simp only [tkB, Bool.and_eq_true] at h
  obtain ⟨h1, h2, h3⟩ := h
  have h2 := inB_true.1 h2
  have h3 := inB_true.1 h3
  refine ⟨k.toNat, by omega, by omega, h3, h1⟩
theorem tk_of {cs : List Int} {n K : Nat} {miles : Int} (hK : K < n) (hm : 1 ≤ miles ∧ miles ≤ smi cs K) (h : spB 10 cs n = true) : tkB cs n (K : Int) miles = true := by
  simp only [tkB, Bool.and_eq_true]
  exact ⟨h, inB_true.2 ⟨by omega, by omega⟩, inB_true.2 hm⟩
theorem tk_all {cs : List Int} {n K : Nat} (hK : K < n) (hm : 1 ≤ smi cs K) (h : spB 10 cs n = true) : tkB cs n (K : Int) (smi cs K) = true ∧ tkL cs n (K : Int) (smi cs K) = del cs K ∧ tkN cs n (K : Int) (smi cs K) = n - 1 := by
  have hb := tk_of hK ⟨hm, Int.le_refl _⟩ h
  refine ⟨hb, by simp [tkL, hb, del], ?_⟩
  simp [tkN, hb]; omega
theorem tk_some {cs : List Int} {n K : Nat} {miles : Int} (hl : cs.length = n * 2) (hK : K < n) (hm : 1 ≤ miles ∧ miles < smi cs K) (h : spB 10 cs n = true) : tkL cs n (K : Int) miles = cs.set (K * 2) (smi cs K - miles) ∧ tkN cs n (K : Int) miles = n := by
  have hb := tk_of hK ⟨hm.1, by omega⟩ h
  refine ⟨by rw [take_set_drop hl hK]; simp [tkL, hb, hm.2], ?_⟩
  simp [tkN, hb, hm.2]; omega
theorem km_del {cs : List Int} {n K : Nat} (kind : Int) (hl : cs.length = n * 2) (hK : K < n) : ∀ m, m ≤ K → kmTo (del cs K) kind m = kmTo cs kind m
  | 0, _ => rfl
  | m + 1, h => by simp only [kmTo, (del_at hl hK).1, (del_at hl hK).2, if_pos (show m < K by omega), km_del kind hl hK m (by omega)]
theorem km_del2 {cs : List Int} {n K : Nat} (kind : Int) (hl : cs.length = n * 2) (hK : K < n) : ∀ m, kmTo (del cs K) kind (K + m) = kmTo cs kind (K + m + 1) - (if ski cs K = kind then smi cs K else 0)
  | 0 => by
    rw [Nat.add_zero, km_del kind hl hK K (Nat.le_refl _), kmTo]
    by_cases e : ski cs K = kind
    · rw [if_pos e, if_pos e]; omega
    · rw [if_neg e, if_neg e]; omega
  | m + 1 => by
    have e := km_del2 kind hl hK m
    have h1 : kmTo (del cs K) kind (K + (m + 1)) = if ski cs (K + m + 1) = kind then kmTo (del cs K) kind (K + m) + smi cs (K + m + 1) else kmTo (del cs K) kind (K + m) := by
      rw [show K + (m + 1) = (K + m) + 1 by omega]
      simp only [kmTo, (del_at hl hK).1, (del_at hl hK).2, if_neg (show ¬ K + m < K by omega)]
    have h2 : kmTo cs kind (K + (m + 1) + 1) = if ski cs (K + m + 1) = kind then kmTo cs kind (K + m + 1) + smi cs (K + m + 1) else kmTo cs kind (K + m + 1) := rfl
    rw [h1, h2, e]
    by_cases e1 : ski cs (K + m + 1) = kind
    · rw [if_pos e1, if_pos e1]; omega
    · rw [if_neg e1, if_neg e1]
theorem sp_del {cs : List Int} {n K : Nat} (hl : cs.length = n * 2) (hK : K < n) (h : spB 10 cs n = true) : spB 10 (del cs K) (n - 1) = true := by
  have h1 := spB_true.1 h
  refine spB_true.2 ⟨by omega, fun i hi => ?_⟩
  unfold spOk
  rw [(del_at hl hK).1, (del_at hl hK).2]
  split
  · exact h1.2 i (by omega)
  · exact h1.2 (i + 1) (by omega)
/-- Without a spare, its kind has so many miles less. -/
theorem kmI_del {cs : List Int} {n K : Nat} (hl : cs.length = n * 2) (hK : K < n) (h : spB 10 cs n = true) : kmI (del cs K) (n - 1) (ski cs K) = kmI cs n (ski cs K) - smi cs K := by
  rw [kmI_yes h, kmI_yes (sp_del hl hK h)]
  have := km_del2 (ski cs K) hl hK (n - 1 - K)
  rw [show K + (n - 1 - K) = n - 1 by omega, show n - 1 + 1 = n by omega, if_pos rfl] at this
  exact this
theorem set_at {cs : List Int} {n K : Nat} {u : Int} (hl : cs.length = n * 2) (hK : K < n) (i : Nat) : smi (cs.set (K * 2) u) i = (if K = i then u else smi cs i) ∧ ski (cs.set (K * 2) u) i = ski cs i := by
  refine ⟨?_, ?_⟩
  · show gi (cs.set (K * 2) u) (i * 2) = if K = i then u else gi cs (i * 2)
    rw [gi_set]
    by_cases e : K = i
    · subst e; rw [if_pos ⟨rfl, by omega⟩, if_pos rfl]
    · rw [if_neg (by omega), if_neg e]
  · show gi (cs.set (K * 2) u) (i * 2 + 1) = gi cs (i * 2 + 1)
    rw [gi_set, if_neg (by omega)]
theorem km_set {cs : List Int} {n K : Nat} {u : Int} (kind : Int) (hl : cs.length = n * 2) (hK : K < n) : ∀ m, kmTo (cs.set (K * 2) u) kind m = kmTo cs kind m + (if K < m ∧ ski cs K = kind then u - smi cs K else 0)
  | 0 => by simp [kmTo]
  | m + 1 => by
    have e0 := km_set (u := u) kind hl hK m
    simp only [kmTo, (set_at hl hK m).1, (set_at hl hK m).2]
    rw [e0]
    by_cases e : K = m
    · subst e
      by_cases e2 : ski cs K = kind
      · simp only [e2, if_true, Nat.lt_irrefl, false_and, if_false, Nat.lt_succ_self, true_and]; omega
      · simp only [e2, if_false, and_false]
    · by_cases e1 : ski cs m = kind
      · by_cases e3 : K < m ∧ ski cs K = kind
        · rw [if_pos e1, if_pos e1, if_pos e3, if_neg e, if_pos ⟨by omega, e3.2⟩]; omega
        · rw [if_pos e1, if_pos e1, if_neg e3, if_neg e, if_neg (fun h => e3 ⟨by omega, h.2⟩)]; omega
      · by_cases e3 : K < m ∧ ski cs K = kind
        · rw [if_neg e1, if_neg e1, if_pos e3, if_pos ⟨by omega, e3.2⟩]
        · rw [if_neg e1, if_neg e1, if_neg e3, if_neg (fun h => e3 ⟨by omega, h.2⟩)]
theorem sp_set {cs : List Int} {n K : Nat} {u : Int} (hl : cs.length = n * 2) (hK : K < n) (hu : 1 ≤ u ∧ u ≤ 50) (h : spB 10 cs n = true) : spB 10 (cs.set (K * 2) u) n = true := by
  have h1 := spB_true.1 h
  refine spB_true.2 ⟨h1.1, fun i hi => ?_⟩
  unfold spOk
  rw [(set_at hl hK i).1, (set_at hl hK i).2]
  split
  · exact ⟨hu, (h1.2 i hi).2⟩
  · exact h1.2 i hi
/-- The law of what is taken, where a part is left. -/
theorem tk_law {cs ds : List Int} {n K : Nat} {miles : Int} (hl : cs.length = n * 2) (hK : K < n) (hm : 1 ≤ miles ∧ miles < smi cs K) (h : spB 10 cs n = true) (hd : cs.set (K * 2) (smi cs K - miles) = ds) :
    (tkB ds n (K : Int) (smi cs K - miles) = true ∧ tkL ds n (K : Int) (smi cs K - miles) = del cs K ∧ tkN ds n (K : Int) (smi cs K - miles) = n - 1) ∧ kmI ds n (ski cs K) = kmI cs n (ski cs K) - miles ∧ ∀ o, o ≠ ski cs K → kmI ds n o = kmI cs n o := by
  subst hd
  have h1 := (spB_true.1 h).2 K hK
  unfold spOk at h1
  have hs := sp_set (u := smi cs K - miles) hl hK (by omega) h
  have e : smi (cs.set (K * 2) (smi cs K - miles)) K = smi cs K - miles := by rw [(set_at hl hK K).1, if_pos rfl]
  have ha := tk_all (cs := cs.set (K * 2) (smi cs K - miles)) (n := n) (K := K) hK (by rw [e]; omega) hs
  rw [e, del_set] at ha
  refine ⟨ha, ?_, fun o ho => ?_⟩
  · rw [kmI_yes h, kmI_yes hs, km_set _ hl hK, if_pos ⟨hK, rfl⟩]; omega
  · rw [kmI_yes h, kmI_yes hs, km_set _ hl hK, if_neg (fun hh => ho hh.2.symm)]; omega

end Go.Proofs.Ythbkimojbbkeiaa
