/- Plain laws on sorted spares and on what is left of them; nothing of the program. -/
import Derived.Test.YthbkimojbbkeiaaTkPlain
import Derived.Test.YthbkimojbbkeiaaJtLong
namespace Go.Proofs.Ythbkimojbbkeiaa

theorem srt_prs {cs : List Int} {n : Nat} (hc : spTo cs n) : prs (fl (srtTo (prs cs n) 200)) n = srtTo (prs cs n) 200 := by
  have h := prs_fl (srtTo (prs cs n) 200)
  rw [(srtTo_perm (prs_ok hc)).length_eq, prs_len] at h
  exact h
/-- The sorted list: its length, its spares, its order. -/
theorem srt_law {cs : List Int} {n : Nat} (h : spB 10 cs n = true) :
    srtN cs n = n ∧ (srtL cs n).length = n * 2 ∧ (prs (srtL cs n) n).Perm (prs cs n) ∧ Srt (prs (srtL cs n) n) ∧ spB 10 (srtL cs n) n = true := by
  have hc := (spB_true.1 h).2
  have e : srtL cs n = fl (srtTo (prs cs n) 200) := by simp [srtL, h]
  have hp : (prs (srtL cs n) n).Perm (prs cs n) := by rw [e, srt_prs hc]; exact srtTo_perm (prs_ok hc)
  refine ⟨by simp [srtN, h], ?_, hp, by rw [e, srt_prs hc]; exact srtTo_srt _ _, spB_true.2 ⟨(spB_true.1 h).1, spTo_perm hp hc⟩⟩
  rw [e, fl_len, (srtTo_perm (prs_ok hc)).length_eq, prs_len]
theorem srt_again {cs : List Int} {n : Nat} (h : spB 10 cs n = true) : srtL (srtL cs n) n = srtL cs n ∧ srtN (srtL cs n) n = n := by
  obtain ⟨-, h2, -, h4, h5⟩ := srt_law h
  refine ⟨?_, by simp [srtN, h5]⟩
  have e : ∀ ds, spB 10 ds n = true → srtL ds n = fl (srtTo (prs ds n) 200) := fun ds hd => by unfold srtL; rw [if_pos hd]
  rw [e (srtL cs n) h5]
  rw [← srt_is (prs_ok (spB_true.1 h5).2) h4 (List.Perm.refl _), fl_prs h2]

theorem km_dk (cs : List Int) (kind : Int) : ∀ n, kmTo cs kind n = sL (dk kind (prs cs n))
  | 0 => rfl
  | n + 1 => by
    rw [kmTo, prs_succ, dk_app, sL_app, km_dk cs kind n]
    by_cases h : ski cs n = kind
    · rw [if_pos h]; simp [dk, h, sL]
    · rw [if_neg h]; simp [dk, h, sL]
theorem km_perm {cs ds : List Int} {n : Nat} (kind : Int) (h : (prs ds n).Perm (prs cs n)) : kmTo ds kind n = kmTo cs kind n := by
  rw [km_dk, km_dk]
  exact sL_perm ((h.filter _).map _)
theorem kmI_srt {cs : List Int} {n : Nat} (kind : Int) (h : spB 10 cs n = true) : kmI (srtL cs n) n kind = kmI cs n kind := by
  obtain ⟨-, -, h3, -, h5⟩ := srt_law h
  rw [kmI_yes h, kmI_yes h5, km_perm kind h3]
/-- All miles of the first k. -/
def amTo (cs : List Int) : Nat → Int
  | 0 => 0
  | k + 1 => amTo cs k + smi cs k
theorem amTo_bd {cs : List Int} : ∀ {k : Nat}, spTo cs k → 0 ≤ amTo cs k ∧ amTo cs k ≤ 50 * k
  | 0, _ => by simp [amTo]
  | k + 1, h => by
    have h1 := amTo_bd (spTo_mono h (Nat.le_succ k))
    have h2 := (h k (by omega)).1
    simp only [amTo]; omega
/-- .. without those of the first k kinds. -/
def rmTo (cs : List Int) (n : Nat) : Nat → Int
  | 0 => amTo cs n
  | k + 1 => rmTo cs n k - kmTo cs (k : Int) n
theorem am_four {cs : List Int} : ∀ {n : Nat}, spTo cs n → amTo cs n = kmTo cs 0 n + kmTo cs 1 n + kmTo cs 2 n + kmTo cs 3 n
  | 0, _ => rfl
  | n + 1, h => by
    have h1 := am_four (spTo_mono h (Nat.le_succ n))
    have h2 := (h n (by omega)).2
    simp only [amTo, kmTo]
    have : ski cs n = 0 ∨ ski cs n = 1 ∨ ski cs n = 2 ∨ ski cs n = 3 := by omega
    rcases this with e | e | e | e <;> simp [e] <;> omega
theorem rm_four {cs : List Int} {n : Nat} (h : spTo cs n) : rmTo cs n 4 = 0 := by
  have := am_four h
  simp only [rmTo]
  have e0 : ((0 : Nat) : Int) = 0 := rfl
  have e1 : ((1 : Nat) : Int) = 1 := rfl
  have e2 : ((2 : Nat) : Int) = 2 := rfl
  have e3 : ((3 : Nat) : Int) = 3 := rfl
  rw [e0, e1, e2, e3]
  omega
theorem rm_bd {cs : List Int} {n : Nat} (h : spTo cs n) : ∀ k, k ≤ 4 → 0 ≤ rmTo cs n k ∧ rmTo cs n k ≤ 50 * n := by
  have h0 := (kmTo_bd (kind := 0) h)
  have h1 := (kmTo_bd (kind := 1) h)
  have h2 := (kmTo_bd (kind := 2) h)
  have h3 := (kmTo_bd (kind := 3) h)
  have ha := amTo_bd h
  have hf := am_four h
  intro k hk
  have : k = 0 ∨ k = 1 ∨ k = 2 ∨ k = 3 ∨ k = 4 := by omega
  have e0 : ((0 : Nat) : Int) = 0 := rfl
  have e1 : ((1 : Nat) : Int) = 1 := rfl
  have e2 : ((2 : Nat) : Int) = 2 := rfl
  have e3 : ((3 : Nat) : Int) = 3 := rfl
  rcases this with rfl | rfl | rfl | rfl | rfl <;> simp only [rmTo, e0, e1, e2, e3] <;> omega

/-- Sorted: no neighbour stands ahead of its time. -/
theorem srt_next {cs : List Int} {n i : Nat} (h : spB 10 cs n = true) (hi : i + 1 < n) :
    ¬ ski (srtL cs n) (i + 1) < ski (srtL cs n) i ∧ ¬ (ski (srtL cs n) (i + 1) = ski (srtL cs n) i ∧ smi (srtL cs n) i < smi (srtL cs n) (i + 1)) := by
  obtain ⟨-, -, -, h4, h5⟩ := srt_law h
  have h6 := fn_of_srt h4 (show i < i + 1 by omega) hi
  have a := (spB_true.1 h5).2 i (by omega)
  have b := (spB_true.1 h5).2 (i + 1) (by omega)
  unfold spOk at a b
  unfold key at h6
  simp only at h6
  omega

theorem fit_min {cs : List Int} {n : Nat} {nm nk : Int} (h : fitB cs n nm nk = true) :
    ∃ f : Nat, f < n ∧ fitI cs n nm nk = (f : Int) ∧ srB (smi cs f) (ski cs f) nm nk = true ∧ ∀ i, i < n → srB (smi cs i) (ski cs i) nm nk = true → smi cs f ≤ smi cs i := by
  have hr : 0 ≤ fitR cs n nm nk := by unfold fitB at h; exact of_decide_eq_true h
  have hok : fitOk cs n nm nk = true := by
    cases e : fitOk cs n nm nk with
    | true => rfl
    | false => unfold fitR at hr; rw [e] at hr; simp at hr
  have hr2 : fitR cs n nm nk = fitTo cs nm nk n := by unfold fitR; rw [if_pos hok]
  have hr3 := hr
  rw [hr2] at hr3
  obtain ⟨h1, h2⟩ := (fitTo_best (cs := cs) (nm := nm) (nk := nk) (k := n)).2 hr3
  have hb := fitTo_bd (cs := cs) (nm := nm) (nk := nk) (k := n)
  refine ⟨(fitTo cs nm nk n).toNat, by omega, ?_, h1, fun i hi hs => (h2 i hi hs).1⟩
  unfold fitI
  rw [hr2, if_neg (by omega)]
  omega
theorem prs_at {cs ds : List Int} {n i : Nat} (hp : (prs ds n).Perm (prs cs n)) (hi : i < n) : ∃ j, j < n ∧ smi ds i = smi cs j ∧ ski ds i = ski cs j := by
  have hm : (smi ds i, ski ds i) ∈ prs ds n := List.mem_map.2 ⟨i, List.mem_range.2 hi, rfl⟩
  have hm2 := hp.mem_iff.1 hm
  obtain ⟨j, hj, e⟩ := List.mem_map.1 hm2
  simp only [Prod.mk.injEq] at e
  exact ⟨j, List.mem_range.1 hj, e.1.symm, e.2.symm⟩
/-- The same spares in another order are as fit. -/
theorem fit_half {cs ds : List Int} {n : Nat} {nm nk : Int} (hp : (prs ds n).Perm (prs cs n)) (hc : spB 10 cs n = true) (h : fitB ds n nm nk = true) : fitB cs n nm nk = true := by
  have hok : fitOk ds n nm nk = true := by
    cases e : fitOk ds n nm nk with
    | true => rfl
    | false => unfold fitB fitR at h; rw [e] at h; simp at h
  have hok2 : fitOk cs n nm nk = true := by
    unfold fitOk at hok ⊢
    rw [Bool.and_eq_true] at hok ⊢
    exact ⟨hc, hok.2⟩
  obtain ⟨f, hf, -, hs, -⟩ := fit_min h
  obtain ⟨j, hj, e1, e2⟩ := prs_at hp hf
  exact (fit_some hok2).2 ⟨j, hj, by rw [← e1, ← e2]; exact hs⟩
theorem fit_same {cs ds : List Int} {n : Nat} {nm nk : Int} (hp : (prs ds n).Perm (prs cs n)) (hc : spB 10 cs n = true) (hd : spB 10 ds n = true) :
    fitB ds n nm nk = fitB cs n nm nk ∧ (fitB cs n nm nk = true → ∃ a b : Nat, (a < n ∧ b < n) ∧ (fitI cs n nm nk = a ∧ fitI ds n nm nk = b) ∧ smi cs a = smi ds b ∧ ski cs a = ski ds b) := by
  have h1 : fitB ds n nm nk = true → fitB cs n nm nk = true := fit_half hp hc
  have h2 : fitB cs n nm nk = true → fitB ds n nm nk = true := fit_half hp.symm hd
  refine ⟨by rw [Bool.eq_iff_iff]; exact ⟨h1, h2⟩, fun h => ?_⟩
  obtain ⟨a, ha, ea, sa, ma⟩ := fit_min h
  obtain ⟨b, hb, eb, sb, mb⟩ := fit_min (h2 h)
  refine ⟨a, b, ⟨ha, hb⟩, ⟨ea, eb⟩, ?_, ?_⟩
  · obtain ⟨j, hj, e1, e2⟩ := prs_at hp hb
    obtain ⟨k, hk, f1, f2⟩ := prs_at hp.symm ha
    have x1 := ma j hj (by rw [← e1, ← e2]; exact sb)
    have x2 := mb k hk (by rw [← f1, ← f2]; exact sa)
    omega
  · rw [(srB_true.1 sa).1, (srB_true.1 sb).1]

end Go.Proofs.Ythbkimojbbkeiaa
