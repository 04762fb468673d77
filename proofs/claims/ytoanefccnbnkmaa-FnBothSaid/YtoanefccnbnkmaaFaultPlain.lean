/- Plain facts on faults, ratios and what is measured; nothing of the program. -/
import Derived.Test.YtoanefccnbnkmaaCabPlain
namespace Go.Proofs.Ytoanefccnbnkmaa

/-- Is there such a fault of a cable? -/
def fvB (cs : List Int) (n : Nat) (m f : Int) : Bool := inB m 0 (milesI cs n) && inB f 0 1000
theorem fvB_cab {cs : List Int} {n : Nat} {m f : Int} (h : fvB cs n m f = true) : cabB cs n = true ∧ (0 ≤ m ∧ m ≤ mlTo cs n) ∧ 0 ≤ f ∧ f ≤ 1000 := by
  simp only [fvB, Bool.and_eq_true, inB_true] at h
  cases hc : cabB cs n with
  | false => rw [milesI_no hc] at h; omega
  | true => rw [milesI_yes hc] at h; exact ⟨rfl, h⟩
theorem fvB_no {cs : List Int} {n : Nat} {m f : Int} (h : cabB cs n = false) : fvB cs n m f = false := by
  cases e : fvB cs n m f with
  | false => rfl
  | true => rw [(fvB_cab e).1] at h; cases h

/-- What FaultOpen answers. -/
def opA (cs : List Int) (n : Nat) (m f : Int) : Int := if fvB cs n m f then ohmsI cs n m + f else 0
def opB (cs : List Int) (n : Nat) (m f : Int) : Int := if fvB cs n m f then allI cs n - ohmsI cs n m + f else 0
/-- The resistances on both sides of a mile of a cable. -/
theorem sides_bd {cs : List Int} {n : Nat} {m : Int} (h : cabB cs n = true) (h0 : 0 ≤ m) (h1 : m ≤ mlTo cs n) :
    ohmsI cs n m = rI cs n m ∧ allI cs n = rI cs n (mlTo cs n) ∧ 0 ≤ rI cs n m ∧ rI cs n m ≤ rI cs n (mlTo cs n) ∧ rI cs n (mlTo cs n) ≤ 8000 := by
  have hm := milesI_yes h
  have h2 := rI_bd h (m := m) h0
  have h3 := rI_bd h (m := mlTo cs n) (by omega)
  have h4 := rI_mono (cabB_true.1 h).2 h0 h1 (Int.le_refl _)
  exact ⟨ohmsI_yes h0 (by rw [hm]; exact h1), allI_yes h, h2.1, by omega, h3.2⟩
theorem sides_of {cs : List Int} {n : Nat} {m f : Int} (h : fvB cs n m f = true) :
    ohmsI cs n m = rI cs n m ∧ allI cs n = rI cs n (mlTo cs n) ∧ 0 ≤ rI cs n m ∧ rI cs n m ≤ rI cs n (mlTo cs n) ∧ rI cs n (mlTo cs n) ≤ 8000 := by
  obtain ⟨hc, hm, _⟩ := fvB_cab h
  exact sides_bd hc hm.1 hm.2

/-- A ratio in lowest terms. -/
def gd (t l : Int) : Int := (Nat.gcd t.toNat l.toNat : Int)
def rdT (t l : Int) : Int := t / gd t l
def rdL (t l : Int) : Int := l / gd t l
theorem gd_pos {t l : Int} (hl : 1 ≤ l) : 1 ≤ gd t l := by
  unfold gd
  have : 0 < Nat.gcd t.toNat l.toNat := Nat.gcd_pos_of_pos_right _ (by omega)
  omega
theorem gd_le {t l : Int} (hl : 1 ≤ l) : gd t l ≤ l := by
  unfold gd
  have := Nat.gcd_le_right (m := t.toNat) (n := l.toNat) (by omega)
  omega
theorem rd_mul {t l : Int} (ht : 0 ≤ t) (hl : 1 ≤ l) : t = gd t l * rdT t l ∧ l = gd t l * rdL t l := by
  have h1 : ((Nat.gcd t.toNat l.toNat : Nat) : Int) ∣ ((t.toNat : Nat) : Int) := Int.natCast_dvd_natCast.2 (Nat.gcd_dvd_left _ _)
  have h2 : ((Nat.gcd t.toNat l.toNat : Nat) : Int) ∣ ((l.toNat : Nat) : Int) := Int.natCast_dvd_natCast.2 (Nat.gcd_dvd_right _ _)
  rw [Int.toNat_of_nonneg ht] at h1
  rw [Int.toNat_of_nonneg (by omega)] at h2
  exact ⟨(Int.mul_ediv_cancel' h1).symm, (Int.mul_ediv_cancel' h2).symm⟩
theorem rd_bd {t l : Int} (ht : 0 ≤ t) (hl : 1 ≤ l) : 0 ≤ rdT t l ∧ rdT t l ≤ t ∧ 1 ≤ rdL t l ∧ rdL t l ≤ l := by
  have hg := gd_pos (t := t) hl
  obtain ⟨h1, h2⟩ := rd_mul ht hl
  have h3 : 0 ≤ rdT t l := Int.ediv_nonneg ht (by omega)
  have h4 : 0 ≤ rdL t l := Int.ediv_nonneg (by omega) (by omega)
  refine ⟨h3, Int.ediv_le_self _ ht, ?_, Int.ediv_le_self _ (by omega)⟩
  by_cases e : rdL t l = 0
  · rw [e] at h2; omega
  · omega
theorem gd_one {t : Int} : gd t 1 = 1 := by simp [gd]
theorem rd_one {t : Int} : rdT t 1 = t ∧ rdL t 1 = 1 := by simp [rdT, rdL, gd_one]
/-- A comparison of a ratio in lowest terms with a number. -/
theorem rd_le {t l x : Int} (ht : 0 ≤ t) (hl : 1 ≤ l) (h : t ≤ x * l) : rdT t l ≤ x * rdL t l := by
  have hg := gd_pos (t := t) hl
  obtain ⟨h1, h2⟩ := rd_mul ht hl
  have h3 : gd t l * rdT t l ≤ gd t l * (x * rdL t l) := by
    rw [← h1, ← Int.mul_assoc, Int.mul_comm (gd t l) x, Int.mul_assoc, ← h2]
    exact h
  exact Int.le_of_mul_le_mul_left h3 (by omega)
theorem rd_ge {t l x : Int} (ht : 0 ≤ t) (hl : 1 ≤ l) (h : x * l ≤ t) : x * rdL t l ≤ rdT t l := by
  have hg := gd_pos (t := t) hl
  obtain ⟨h1, h2⟩ := rd_mul ht hl
  have h3 : gd t l * (x * rdL t l) ≤ gd t l * rdT t l := by
    rw [← h1, ← Int.mul_assoc, Int.mul_comm (gd t l) x, Int.mul_assoc, ← h2]
    exact h
  exact Int.le_of_mul_le_mul_left h3 (by omega)

/-- What is measured over r, and then f beside s: before it is brought to lowest terms. -/
def erT (r s f : Int) : Int := if f + s = 0 then r else r * (f + s) + f * s
def erL (s f : Int) : Int := if f + s = 0 then 1 else f + s
def eaT (r s f : Int) : Int := rdT (erT r s f) (erL s f)
def eaL (r s f : Int) : Int := rdL (erT r s f) (erL s f)
theorem mul_bd {a b A B : Int} (h0 : 0 ≤ a) (h1 : a ≤ A) (h2 : 0 ≤ b) (h3 : b ≤ B) : 0 ≤ a * b ∧ a * b ≤ A * B :=
  ⟨Int.mul_nonneg h0 h2, Int.mul_le_mul h1 h3 h2 (by omega)⟩
theorem er_bd {r s f : Int} (hr : 0 ≤ r ∧ r ≤ 8000) (hs : 0 ≤ s ∧ s ≤ 8000) (hf : 0 ≤ f ∧ f ≤ 1000) : 0 ≤ erT r s f ∧ erT r s f ≤ 80000000 ∧ 1 ≤ erL s f ∧ erL s f ≤ 9000 := by
  have h1 := mul_bd hr.1 hr.2 (b := f + s) (B := 9000) (by omega) (by omega)
  have h2 := mul_bd hf.1 hf.2 hs.1 hs.2
  unfold erT erL
  split <;> omega
theorem ea_bd {r s f : Int} (hr : 0 ≤ r ∧ r ≤ 8000) (hs : 0 ≤ s ∧ s ≤ 8000) (hf : 0 ≤ f ∧ f ≤ 1000) : 0 ≤ eaT r s f ∧ eaT r s f ≤ 80000000 ∧ 1 ≤ eaL r s f ∧ eaL r s f ≤ 9000 := by
  have h := er_bd hr hs hf
  have := rd_bd h.1 h.2.2.1
  unfold eaT eaL
  omega
/-- With the other end earthed, one measures no more than with it open, no more than the cable, no less than r. -/
theorem ea_le {r s f : Int} (hr : 0 ≤ r ∧ r ≤ 8000) (hs : 0 ≤ s ∧ s ≤ 8000) (hf : 0 ≤ f ∧ f ≤ 1000) :
    eaT r s f ≤ (r + f) * eaL r s f ∧ eaT r s f ≤ (r + s) * eaL r s f ∧ r * eaL r s f ≤ eaT r s f := by
  have h := er_bd hr hs hf
  have h2 : erT r s f ≤ (r + f) * erL s f ∧ erT r s f ≤ (r + s) * erL s f ∧ r * erL s f ≤ erT r s f := by
    unfold erT erL
    split
    · omega
    · have a1 := Int.mul_nonneg hf.1 hs.1
      have a2 := Int.mul_nonneg hf.1 hf.1
      have a3 := Int.mul_nonneg hs.1 hs.1
      have a4 : s * f = f * s := Int.mul_comm _ _
      simp only [Int.mul_add, Int.add_mul]
      omega
  exact ⟨rd_le h.1 h.2.2.1 h2.1, rd_le h.1 h.2.2.1 h2.2.1, rd_ge h.1 h.2.2.1 h2.2.2⟩
theorem ea_zero {r s : Int} (hr : 0 ≤ r) (hs : 0 ≤ s) : eaT r s 0 = r ∧ eaL r s 0 = 1 := by
  unfold eaT eaL erT erL
  by_cases e : s = 0
  · subst e; simpa using rd_one
  · simp only [Int.zero_add, Int.zero_mul, Int.add_zero, if_neg e]
    have hg : gd (r * s) s = s := by
      unfold gd
      have : (r * s).toNat = r.toNat * s.toNat := by rw [Int.toNat_mul hr hs]
      rw [this, Nat.gcd_mul_left_left]
      omega
    unfold rdT rdL
    rw [hg, Int.mul_ediv_cancel _ e, Int.ediv_self e]
    exact ⟨rfl, rfl⟩
/-- The ratio, multiplied crosswise. -/
theorem ea_cross {r s f : Int} (hr : 0 ≤ r ∧ r ≤ 8000) (hs : 0 ≤ s ∧ s ≤ 8000) (hf : 0 ≤ f ∧ f ≤ 1000) : eaT r s f * (f + s) = eaL r s f * (r * (f + s) + f * s) := by
  have h := er_bd hr hs hf
  obtain ⟨h1, h2⟩ := rd_mul h.1 h.2.2.1
  unfold eaT eaL
  by_cases e : f + s = 0
  · have hf0 : f = 0 := by omega
    have hs0 : s = 0 := by omega
    subst hf0; subst hs0
    simp
  · have e1 : erT r s f = r * (f + s) + f * s := by simp [erT, e]
    have e2 : erL s f = f + s := by simp [erL, e]
    rw [e1, e2] at h1 h2 ⊢
    generalize rdT (r * (f + s) + f * s) (f + s) = T at *
    generalize rdL (r * (f + s) + f * s) (f + s) = L at *
    generalize gd (r * (f + s) + f * s) (f + s) = g at *
    generalize hA : r * (f + s) + f * s = A at *
    generalize f + s = D at *
    rw [h2, h1, ← Int.mul_assoc, ← Int.mul_assoc, Int.mul_comm T g, Int.mul_comm L g, Int.mul_assoc, Int.mul_assoc, Int.mul_comm T L]

/-- Is a mile that of the fault of a balance? -/
def hitB (cs : List Int) (n : Nat) (a b m : Int) : Bool := inB (a - ohmsI cs n m) 0 1000 && (allI cs n - ohmsI cs n m + (a - ohmsI cs n m) == b)
/-- The first such mile among the first k. -/
def fdTo (cs : List Int) (n : Nat) (a b : Int) : Nat → Int
  | 0 => -1
  | k + 1 => if 0 ≤ fdTo cs n a b k then fdTo cs n a b k else if hitB cs n a b k then k else -1
/-- How many miles a cable has, the mile 0 with them. -/
def nMl (cs : List Int) (n : Nat) : Nat := (milesI cs n + 1).toNat
def fdM (cs : List Int) (n : Nat) (a b : Int) : Int := fdTo cs n a b (nMl cs n)
theorem fdTo_hit {cs : List Int} {n : Nat} {a b : Int} : ∀ k, 0 ≤ fdTo cs n a b k → fdTo cs n a b k < k ∧ hitB cs n a b (fdTo cs n a b k) = true
  | 0, h => by simp [fdTo] at h
  | k + 1, h => by
    simp only [fdTo] at h ⊢
    by_cases h1 : 0 ≤ fdTo cs n a b k
    · rw [if_pos h1] at h ⊢
      have := fdTo_hit k h1
      exact ⟨by omega, this.2⟩
    · rw [if_neg h1] at h ⊢
      by_cases h2 : hitB cs n a b k = true
      · rw [if_pos h2] at h ⊢
        exact ⟨by omega, h2⟩
      · rw [if_neg h2] at h; omega
theorem fdTo_ge {cs : List Int} {n : Nat} {a b : Int} : ∀ k (m : Nat), m < k → hitB cs n a b m = true → 0 ≤ fdTo cs n a b k ∧ fdTo cs n a b k ≤ m
  | 0, m, h, _ => by omega
  | k + 1, m, h, hh => by
    simp only [fdTo]
    by_cases h1 : 0 ≤ fdTo cs n a b k
    · rw [if_pos h1]
      by_cases e : m = k
      · subst e; have := fdTo_hit m h1; omega
      · exact fdTo_ge k m (by omega) hh
    · rw [if_neg h1]
      by_cases e : m = k
      · subst e; rw [if_pos hh]; omega
      · have := fdTo_ge k m (by omega) hh; omega
theorem fdTo_lo {cs : List Int} {n : Nat} {a b : Int} : ∀ k, -1 ≤ fdTo cs n a b k
  | 0 => by simp [fdTo]
  | k + 1 => by
    have := fdTo_lo (cs := cs) (n := n) (a := a) (b := b) k
    simp only [fdTo]
    split
    · omega
    · split <;> omega
theorem nMl_eq {cs : List Int} {n : Nat} (h : cabB cs n = true) : (nMl cs n : Int) = mlTo cs n + 1 := by
  have := milesI_pos h
  unfold nMl
  rw [milesI_yes h] at this ⊢
  omega
theorem nMl_no {cs : List Int} {n : Nat} (h : cabB cs n = false) : nMl cs n = 0 := by simp [nMl, milesI_no h]
theorem nMl_le {cs : List Int} {n : Nat} : nMl cs n ≤ 401 := by
  have := milesI_bd (cs := cs) (n := n)
  unfold nMl; omega
/-- Different miles have different resistances. -/
theorem rI_inj {cs : List Int} {n : Nat} (h : cabB cs n = true) {a b : Int} (h0 : 0 ≤ a) (h1 : a ≤ mlTo cs n) (h2 : 0 ≤ b) (h3 : b ≤ mlTo cs n) (e : rI cs n a = rI cs n b) : a = b := by
  have hc := (cabB_true.1 h).2
  rcases Int.lt_trichotomy a b with hlt | heq | hgt
  · have := rI_mono hc h0 (Int.le_of_lt hlt) h3; omega
  · exact heq
  · have := rI_mono hc h2 (Int.le_of_lt hgt) h1; omega
theorem hit_iff {cs : List Int} {n : Nat} {a b m : Int} (h : cabB cs n = true) (h0 : 0 ≤ m) (h1 : m ≤ mlTo cs n) :
    hitB cs n a b m = true ↔ (0 ≤ a - rI cs n m ∧ a - rI cs n m ≤ 1000) ∧ rI cs n (mlTo cs n) - rI cs n m + (a - rI cs n m) = b := by
  obtain ⟨e1, e2, _⟩ := sides_bd h h0 h1
  simp only [hitB, Bool.and_eq_true, inB_true, beq_iff_eq, e1, e2]
/-- What is measured of a fault finds it. -/
theorem fd_of {cs : List Int} {n : Nat} {a b m : Int} (h : cabB cs n = true) (h0 : 0 ≤ m) (h1 : m ≤ mlTo cs n) (hh : hitB cs n a b m = true) : fdM cs n a b = m := by
  have hn := nMl_eq h
  obtain ⟨M, rfl⟩ := Int.eq_ofNat_of_zero_le h0
  have h2 := fdTo_ge (nMl cs n) M (by omega) hh
  have h3 := fdTo_hit (nMl cs n) h2.1
  have h4 := (hit_iff h h0 h1).1 hh
  have h5 := (hit_iff h (a := a) (b := b) (m := fdTo cs n a b (nMl cs n)) h2.1 (by omega)).1 h3.2
  show fdTo cs n a b (nMl cs n) = (M : Int)
  exact rI_inj h h2.1 (by omega) h0 h1 (by omega)
theorem fd_hit {cs : List Int} {n : Nat} {a b : Int} (hh : 0 ≤ fdM cs n a b) : cabB cs n = true ∧ fdM cs n a b ≤ mlTo cs n ∧ hitB cs n a b (fdM cs n a b) = true := by
  cases h : cabB cs n with
  | false => unfold fdM at hh; rw [nMl_no h] at hh; simp [fdTo] at hh
  | true =>
    have hn := nMl_eq h
    have := fdTo_hit (nMl cs n) hh
    exact ⟨rfl, by unfold fdM; omega, this.2⟩

/-- The faults of the first k miles for which a is measured open from A, as a flat list. -/
def onTo (cs : List Int) (n : Nat) (a : Int) : Nat → List Int
  | 0 => []
  | k + 1 => if inB (a - ohmsI cs n k) 0 1000 then onTo cs n a k ++ [(k : Int), a - ohmsI cs n k] else onTo cs n a k
/-- Those of them for which a ratio is measured earthed, too. -/
def erB (cs : List Int) (n : Nat) (m f t l : Int) : Bool := (eaT (ohmsI cs n m) (allI cs n - ohmsI cs n m) f == t) && (eaL (ohmsI cs n m) (allI cs n - ohmsI cs n m) f == l)
def boTo (cs : List Int) (n : Nat) (a t l : Int) : Nat → List Int
  | 0 => []
  | k + 1 => if inB (a - ohmsI cs n k) 0 1000 && erB cs n k (a - ohmsI cs n k) t l then boTo cs n a t l k ++ [(k : Int), a - ohmsI cs n k] else boTo cs n a t l k

/-- The least and the greatest mile among the first k at which a cable can be broken. -/
def brTo (cs : List Int) (n : Nat) (x e : Int) : Nat → Int × Int
  | 0 => (-1, -1)
  | k + 1 => if inB (x - ohmsI cs n k) 0 e then (if (brTo cs n x e k).1 < 0 then (k : Int) else (brTo cs n x e k).1, (k : Int)) else brTo cs n x e k

end Go.Proofs.Ytoanefccnbnkmaa
