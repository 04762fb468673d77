/- Plain: a cable that is turned round in place; nothing of the program. -/
import Derived.Test.YtoanefccnbnkmaaCabPlain
namespace Go.Proofs.Ytoanefccnbnkmaa

theorem gi_set3 (cs : List Int) (k i : Nat) (u : Int) : gi (cs.set k u) i = if k = i ∧ k < cs.length then u else gi cs i := by
  unfold gi
  rw [List.getElem?_set]
  by_cases h : k = i
  · subst h
    by_cases h2 : k < cs.length
    · simp [h2]
    · simp [h2]
  · simp [h]
/-- Two sections that change places. -/
def sw3 (cs : List Int) (i j : Nat) : List Int := (((((cs.set (i * 3) (mi cs j)).set (i * 3 + 1) (ki cs j)).set (i * 3 + 2) (oi cs j)).set (j * 3) (mi cs i)).set (j * 3 + 1) (ki cs i)).set (j * 3 + 2) (oi cs i)
theorem sw3_len (cs : List Int) (i j : Nat) : (sw3 cs i j).length = cs.length := by simp [sw3]
theorem sw3_mi {cs : List Int} {n i j p : Nat} (hl : cs.length = n * 3) (hi : i < n) (hj : j < n) (hne : i ≠ j) : mi (sw3 cs i j) p = if p = j then mi cs i else if p = i then mi cs j else mi cs p := by
  show gi (sw3 cs i j) (p * 3) = _
  unfold sw3
  rw [gi_set3, if_neg (by omega), gi_set3, if_neg (by omega), gi_set3]
  by_cases h1 : p = j
  · subst h1
    rw [if_pos ⟨rfl, by simp; omega⟩, if_pos rfl]
  · rw [if_neg (by omega), if_neg h1, gi_set3, if_neg (by omega), gi_set3, if_neg (by omega), gi_set3]
    by_cases h2 : p = i
    · subst h2
      rw [if_pos ⟨rfl, by omega⟩, if_pos rfl]
    · rw [if_neg (by omega), if_neg h2]; rfl
theorem sw3_ki {cs : List Int} {n i j p : Nat} (hl : cs.length = n * 3) (hi : i < n) (hj : j < n) (hne : i ≠ j) : ki (sw3 cs i j) p = if p = j then ki cs i else if p = i then ki cs j else ki cs p := by
  show gi (sw3 cs i j) (p * 3 + 1) = _
  unfold sw3
  rw [gi_set3, if_neg (by omega), gi_set3]
  by_cases h1 : p = j
  · subst h1
    rw [if_pos ⟨rfl, by simp; omega⟩, if_pos rfl]
  · rw [if_neg (by omega), if_neg h1, gi_set3, if_neg (by omega), gi_set3, if_neg (by omega), gi_set3]
    by_cases h2 : p = i
    · subst h2
      rw [if_pos ⟨rfl, by simp; omega⟩, if_pos rfl]
    · rw [if_neg (by omega), if_neg h2, gi_set3, if_neg (by omega)]; rfl
theorem sw3_oi {cs : List Int} {n i j p : Nat} (hl : cs.length = n * 3) (hi : i < n) (hj : j < n) (hne : i ≠ j) : oi (sw3 cs i j) p = if p = j then oi cs i else if p = i then oi cs j else oi cs p := by
  show gi (sw3 cs i j) (p * 3 + 2) = _
  unfold sw3
  rw [gi_set3]
  by_cases h1 : p = j
  · subst h1
    rw [if_pos ⟨rfl, by simp; omega⟩, if_pos rfl]
  · rw [if_neg (by omega), if_neg h1, gi_set3, if_neg (by omega), gi_set3, if_neg (by omega), gi_set3]
    by_cases h2 : p = i
    · subst h2
      rw [if_pos ⟨rfl, by simp; omega⟩, if_pos rfl]
    · rw [if_neg (by omega), if_neg h2, gi_set3, if_neg (by omega), gi_set3, if_neg (by omega)]; rfl
theorem ext3 {xs ys : List Int} {n : Nat} (h1 : xs.length = n * 3) (h2 : ys.length = n * 3) (h : ∀ p, p < n → mi xs p = mi ys p ∧ ki xs p = ki ys p ∧ oi xs p = oi ys p) : xs = ys := by
  apply ext_gi (by omega)
  intro k hk
  obtain ⟨a, b, c⟩ := h (k / 3) (by omega)
  have : k = k / 3 * 3 ∨ k = k / 3 * 3 + 1 ∨ k = k / 3 * 3 + 2 := by omega
  rcases this with e | e | e
  · rw [e]; exact a
  · rw [e]; exact b
  · rw [e]; exact c
/-- The sections ahead of i, and as many behind, have changed places. -/
def RvTo (cs ys : List Int) (n i : Nat) : Prop := ys.length = n * 3 ∧ ∀ p, p < n → if p < i ∨ n - i ≤ p then mi ys p = mi cs (n - 1 - p) ∧ ki ys p = ki cs (n - 1 - p) ∧ oi ys p = oi cs (n - 1 - p) else mi ys p = mi cs p ∧ ki ys p = ki cs p ∧ oi ys p = oi cs p
theorem rv_start {cs : List Int} {n : Nat} (hl : cs.length = n * 3) : RvTo cs cs n 0 := ⟨hl, fun p hp => by rw [if_neg (by omega)]; exact ⟨rfl, rfl, rfl⟩⟩
theorem rv_step {cs ys : List Int} {n i : Nat} (h : RvTo cs ys n i) (hi : i < n - 1 - i) : RvTo cs (sw3 ys i (n - 1 - i)) n (i + 1) := by
  obtain ⟨hl, hp⟩ := h
  refine ⟨by rw [sw3_len, hl], fun p hpn => ?_⟩
  have a := hp i (by omega)
  have b := hp (n - 1 - i) (by omega)
  have c := hp p hpn
  rw [if_neg (by omega)] at a b
  rw [sw3_mi hl (by omega) (by omega) (by omega), sw3_ki hl (by omega) (by omega) (by omega), sw3_oi hl (by omega) (by omega) (by omega)]
  by_cases h1 : p = n - 1 - i
  · subst h1
    rw [if_pos (by omega), if_pos rfl, if_pos rfl, if_pos rfl, show n - 1 - (n - 1 - i) = i by omega]
    exact a
  · simp only [if_neg h1]
    by_cases h2 : p = i
    · subst h2
      rw [if_pos (by omega)]
      simp only [if_true]
      exact b
    · simp only [if_neg h2]
      by_cases h3 : p < i ∨ n - i ≤ p
      · rw [if_pos h3] at c
        rw [if_pos (by omega)]
        exact c
      · rw [if_neg h3] at c
        rw [if_neg (by omega)]
        exact c
theorem rv_end {cs ys : List Int} {n i : Nat} (h : RvTo cs ys n i) (hi : ¬ i < n - 1 - i) (hin : i ≤ n - 1 - i + 1) : ys = rvC cs n := by
  obtain ⟨hl, hp⟩ := h
  refine ext3 hl (rvC_len cs n) fun p hpn => ?_
  rw [rvC_mi hpn, rvC_ki hpn, rvC_oi hpn]
  have c := hp p hpn
  by_cases h3 : p < i ∨ n - i ≤ p
  · rw [if_pos h3] at c; exact c
  · rw [if_neg h3] at c
    have e : n - 1 - p = p := by omega
    rw [e]; exact c

end Go.Proofs.Ytoanefccnbnkmaa
