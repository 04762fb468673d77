/- Plain facts for the laws on faults. -/
import Derived.Test.YtoanefccnbnkmaaFaultPlain
namespace Go.Proofs.Ytoanefccnbnkmaa

theorem fvB_mk {cs : List Int} {n : Nat} {m f : Int} (h : cabB cs n = true) (h0 : 0 ≤ m) (h1 : m ≤ mlTo cs n) (h2 : 0 ≤ f) (h3 : f ≤ 1000) : fvB cs n m f = true := by
  simp only [fvB, Bool.and_eq_true, inB_true, milesI_yes h]
  exact ⟨⟨h0, h1⟩, h2, h3⟩

/-- A fault of a cable, counted from the other end. -/
theorem back_fv {cs : List Int} {n : Nat} {m f : Int} (h : fvB cs n m f = true) : fvB (rvC cs n) n (mlTo cs n - m) f = true := by
  obtain ⟨hc, hm, hf⟩ := fvB_cab h
  have := rvC_ml hc
  exact fvB_mk (rvC_cab hc) (by omega) (by omega) hf.1 hf.2
theorem back_sides {cs : List Int} {n : Nat} {m f : Int} (h : fvB cs n m f = true) :
    ohmsI (rvC cs n) n (mlTo cs n - m) = rI cs n (mlTo cs n) - rI cs n m ∧ allI (rvC cs n) n = rI cs n (mlTo cs n) := by
  obtain ⟨hc, hm, hf⟩ := fvB_cab h
  have h1 := sides_of (back_fv h)
  have h2 := rvC_rI hc hm.1 hm.2
  have h3 := rvC_rI hc (m := 0) (Int.le_refl _) (by omega)
  rw [rI_zero (cabB_true.1 hc).2, Int.sub_zero, Int.sub_zero] at h3
  rw [rvC_ml hc] at h1
  omega
theorem op_of {cs : List Int} {n : Nat} {m f : Int} (h : fvB cs n m f = true) : opA cs n m f = rI cs n m + f ∧ opB cs n m f = rI cs n (mlTo cs n) - rI cs n m + f := by
  have h1 := sides_of h
  unfold opA opB
  rw [if_pos h, if_pos h]
  omega
theorem op_no {cs : List Int} {n : Nat} {m f : Int} (h : fvB cs n m f = false) : opA cs n m f = 0 ∧ opB cs n m f = 0 := by simp [opA, opB, h]
theorem op_bd {cs : List Int} {n : Nat} {m f : Int} : 0 ≤ opA cs n m f ∧ opA cs n m f ≤ 9000 ∧ 0 ≤ opB cs n m f ∧ opB cs n m f ≤ 9000 := by
  cases h : fvB cs n m f with
  | false => have := op_no h; omega
  | true =>
    have h1 := op_of h
    have h2 := sides_of h
    have h3 := fvB_cab h
    omega
theorem op_back {cs : List Int} {n : Nat} {m f : Int} (h : fvB cs n m f = true) : opA (rvC cs n) n (mlTo cs n - m) f = opB cs n m f ∧ opB (rvC cs n) n (mlTo cs n - m) f = opA cs n m f := by
  have h1 := op_of h
  have h2 := back_sides h
  have h3 := sides_of h
  unfold opA opB at h1 ⊢
  rw [if_pos (back_fv h), if_pos (back_fv h)]
  rw [if_pos h, if_pos h] at h1 ⊢
  omega
/-- A balance finds the fault. -/
theorem open_hit {cs : List Int} {n : Nat} {m f : Int} (h : fvB cs n m f = true) : hitB cs n (opA cs n m f) (opB cs n m f) m = true ∧ fdM cs n (opA cs n m f) (opB cs n m f) = m := by
  obtain ⟨hc, hm, hf⟩ := fvB_cab h
  have h1 := op_of h
  have h2 := sides_of h
  have : hitB cs n (opA cs n m f) (opB cs n m f) m = true := (hit_iff hc hm.1 hm.2).2 (by omega)
  exact ⟨this, fd_of hc hm.1 hm.2 this⟩
/-- What is found is measured. -/
theorem find_op {cs : List Int} {n : Nat} {a b : Int} (h : 0 ≤ fdM cs n a b) :
    fvB cs n (fdM cs n a b) (a - ohmsI cs n (fdM cs n a b)) = true ∧ opA cs n (fdM cs n a b) (a - ohmsI cs n (fdM cs n a b)) = a ∧ opB cs n (fdM cs n a b) (a - ohmsI cs n (fdM cs n a b)) = b := by
  obtain ⟨hc, h1, h2⟩ := fd_hit h
  have h3 := (hit_iff hc h h1).1 h2
  have h4 := sides_bd hc h h1
  have h5 : fvB cs n (fdM cs n a b) (a - ohmsI cs n (fdM cs n a b)) = true := fvB_mk hc h h1 (by omega) (by omega)
  have h6 := op_of h5
  exact ⟨h5, by omega, by omega⟩
theorem find_next {cs : List Int} {n : Nat} {a b : Int} (h : 0 ≤ fdM cs n a b) (h' : 0 ≤ fdM cs n (a + 2) b) : fdM cs n a b < fdM cs n (a + 2) b := by
  obtain ⟨hc, h1, h2⟩ := fd_hit h
  obtain ⟨_, h1', h2'⟩ := fd_hit h'
  have h3 := (hit_iff hc h h1).1 h2
  have h3' := (hit_iff hc h' h1').1 h2'
  rcases Int.lt_or_le (fdM cs n a b) (fdM cs n (a + 2) b) with hlt | hle
  · exact hlt
  · have := rI_mono (cabB_true.1 hc).2 h' hle h1
    omega

theorem brTo_sp {cs : List Int} {n : Nat} {x e : Int} : ∀ k, (∀ m : Nat, m < k → inB (x - ohmsI cs n m) 0 e = true → 0 ≤ (brTo cs n x e k).1 ∧ (brTo cs n x e k).1 ≤ m ∧ m ≤ (brTo cs n x e k).2) ∧
    (0 ≤ (brTo cs n x e k).1 → (brTo cs n x e k).1 < k ∧ inB (x - ohmsI cs n (brTo cs n x e k).1) 0 e = true ∧ 0 ≤ (brTo cs n x e k).2 ∧ (brTo cs n x e k).2 < k ∧ inB (x - ohmsI cs n (brTo cs n x e k).2) 0 e = true) ∧
    ((brTo cs n x e k).1 < 0 → (brTo cs n x e k).1 = -1 ∧ (brTo cs n x e k).2 = -1)
  | 0 => ⟨fun m h => by omega, fun h => by simp [brTo] at h, fun _ => ⟨rfl, rfl⟩⟩
  | k + 1 => by
    obtain ⟨h1, h2, h3⟩ := brTo_sp (cs := cs) (n := n) (x := x) (e := e) k
    simp only [brTo]
    by_cases hh : inB (x - ohmsI cs n k) 0 e = true
    · rw [if_pos hh]
      by_cases hl : (brTo cs n x e k).1 < 0
      · simp only [if_pos hl]
        refine ⟨fun m hm hm2 => ?_, fun _ => ⟨by omega, hh, by omega, by omega, hh⟩, fun h => by omega⟩
        by_cases em : m = k
        · omega
        · have := h1 m (by omega) hm2; omega
      · simp only [if_neg hl]
        have h2' := h2 (by omega)
        refine ⟨fun m hm hm2 => ?_, fun _ => ⟨by omega, h2'.2.1, by omega, by omega, hh⟩, fun h => by omega⟩
        by_cases em : m = k
        · omega
        · have := h1 m (by omega) hm2; omega
    · rw [if_neg hh]
      refine ⟨fun m hm hm2 => ?_, fun h => ?_, h3⟩
      · by_cases em : m = k
        · subst em; exact absurd hm2 hh
        · exact h1 m (by omega) hm2
      · have := h2 h; exact ⟨by omega, this.2.1, by omega, by omega, this.2.2.2.2⟩
/-- A break is found within its end; with no end at its mile alone. -/
theorem break_in {cs : List Int} {n : Nat} {m f : Int} (h : fvB cs n m f = true) :
    0 ≤ (brTo cs n (opA cs n m f) f (nMl cs n)).1 ∧ (brTo cs n (opA cs n m f) f (nMl cs n)).1 ≤ m ∧ m ≤ (brTo cs n (opA cs n m f) f (nMl cs n)).2 := by
  obtain ⟨hc, hm, hf⟩ := fvB_cab h
  have hn := nMl_eq hc
  obtain ⟨M, rfl⟩ := Int.eq_ofNat_of_zero_le hm.1
  have h1 := op_of h
  have h2 := sides_of h
  have := (brTo_sp (cs := cs) (n := n) (x := opA cs n M f) (e := f) (nMl cs n)).1 M (by omega) (inB_true.2 (by omega))
  exact this
theorem break_at {cs : List Int} {n : Nat} {m f : Int} (h : fvB cs n m f = true) :
    (brTo cs n (opA cs n m f - f) 0 (nMl cs n)).1 = m ∧ (brTo cs n (opA cs n m f - f) 0 (nMl cs n)).2 = m := by
  obtain ⟨hc, hm, hf⟩ := fvB_cab h
  have hn := nMl_eq hc
  obtain ⟨M, rfl⟩ := Int.eq_ofNat_of_zero_le hm.1
  have h1 := op_of h
  have h2 := sides_of h
  obtain ⟨s1, s2, _⟩ := brTo_sp (cs := cs) (n := n) (x := opA cs n M f - f) (e := 0) (nMl cs n)
  have h3 := s1 M (by omega) (inB_true.2 (by omega))
  obtain ⟨g1, g2, g3, g4, g5⟩ := s2 h3.1
  rw [inB_true] at g2 g5
  have k1 := sides_bd hc h3.1 (by omega)
  have k2 := sides_bd hc g3 (by omega)
  exact ⟨rI_inj hc h3.1 (by omega) hm.1 hm.2 (by omega), rI_inj hc g3 (by omega) hm.1 hm.2 (by omega)⟩

/-- A lesser fault has fewer ohms. -/
def lessB (cs : List Int) (n : Nat) (m f m' f' : Int) : Bool := fvB cs n m f && fvB cs n m' f' && decide (opA cs n m f < opA cs n m' f') && decide (opB cs n m f < opB cs n m' f')
theorem less_of {cs : List Int} {n : Nat} {m f m' f' : Int} (h : lessB cs n m f m' f' = true) : f < f' ∧ lessB cs n m' f' m f = false ∧ lessB (rvC cs n) n (mlTo cs n - m) f (mlTo cs n - m') f' = true := by
  simp only [lessB, Bool.and_eq_true, decide_eq_true_eq] at h
  obtain ⟨⟨⟨h1, h2⟩, h3⟩, h4⟩ := h
  have o1 := op_of h1
  have o2 := op_of h2
  have b1 := op_back h1
  have b2 := op_back h2
  refine ⟨by omega, ?_, ?_⟩
  · have : decide (opA cs n m' f' < opA cs n m f) = false := by simp; omega
    simp [lessB, this]
  · simp only [lessB, back_fv h1, back_fv h2, Bool.and_eq_true, decide_eq_true_eq]
    exact ⟨⟨⟨trivial, trivial⟩, by omega⟩, by omega⟩

/-- A flat list of pairs, ascending in their first numbers, that are below k; P holds of each. -/
structure Fl (P : Int → Int → Prop) (l : List Int) (k : Nat) (c : Nat) : Prop where
  len : l.length = c * 2
  le : c ≤ k
  all : ∀ j, j < c → 0 ≤ gi l (j * 2) ∧ gi l (j * 2) < k ∧ P (gi l (j * 2)) (gi l (j * 2 + 1))
  up : ∀ i j, i < j → j < c → gi l (i * 2) < gi l (j * 2)
  got : ∀ x y, 0 ≤ x → x < k → P x y → ∃ j, j < c ∧ gi l (j * 2) = x ∧ gi l (j * 2 + 1) = y
theorem gi_app2 {l : List Int} {x y : Int} {j : Nat} : gi (l ++ [x, y]) j = if j < l.length then gi l j else if j = l.length then x else if j = l.length + 1 then y else 0 := by
  simp only [gi]
  split
  · rename_i h; rw [List.getElem?_append_left h]
  · rename_i h
    rw [List.getElem?_append_right (by omega)]
    split
    · rename_i h2; subst h2; simp
    · split
      · rename_i h2 h3
        have : j - l.length = 1 := by omega
        rw [this]; rfl
      · rename_i h2 h3
        have : 2 ≤ j - l.length := by omega
        rw [List.getElem?_eq_none (by simpa using this)]; rfl
theorem Fl.zero (P : Int → Int → Prop) : Fl P [] 0 0 := ⟨rfl, Nat.le_refl _, fun j h => by omega, fun i j _ h => by omega, fun x y h0 h1 => by omega⟩
theorem Fl.no {P : Int → Int → Prop} {l : List Int} {k c : Nat} (h : Fl P l k c) (hn : ∀ y, ¬ P k y) : Fl P l (k + 1) c :=
  ⟨h.len, by have := h.le; omega, fun j hj => by have := h.all j hj; exact ⟨this.1, by omega, this.2.2⟩, h.up, fun x y h0 h1 hp => by
    by_cases e : x = k
    · subst e; exact absurd hp (hn y)
    · exact h.got x y h0 (by omega) hp⟩
theorem Fl.yes {P : Int → Int → Prop} {l : List Int} {k c : Nat} {y : Int} (h : Fl P l k c) (hp : P k y) (hu : ∀ z, P k z → z = y) : Fl P (l ++ [(k : Int), y]) (k + 1) (c + 1) := by
  have hl := h.len
  have lo : ∀ i, i < c → gi (l ++ [(k : Int), y]) (i * 2) = gi l (i * 2) ∧ gi (l ++ [(k : Int), y]) (i * 2 + 1) = gi l (i * 2 + 1) := fun i hi => by
    rw [gi_app2, gi_app2, if_pos (by omega), if_pos (by omega)]; exact ⟨rfl, rfl⟩
  have la1 : gi (l ++ [(k : Int), y]) (c * 2) = k := by rw [gi_app2, if_neg (by omega), if_pos (by omega)]
  have la2 : gi (l ++ [(k : Int), y]) (c * 2 + 1) = y := by rw [gi_app2, if_neg (by omega), if_neg (by omega), if_pos (by omega)]
  have la := And.intro la1 la2
  refine ⟨by simp; omega, by have := h.le; omega, fun j hj => ?_, fun i j hij hj => ?_, fun x z h0 h1 hp2 => ?_⟩
  · by_cases e : j = c
    · subst e; rw [la.1, la.2]; exact ⟨by omega, by omega, hp⟩
    · have := h.all j (by omega)
      rw [(lo j (by omega)).1, (lo j (by omega)).2]
      exact ⟨this.1, by omega, this.2.2⟩
  · rw [(lo i (by omega)).1]
    by_cases e : j = c
    · subst e; rw [la.1]; exact (h.all i (by omega)).2.1
    · rw [(lo j (by omega)).1]; exact h.up i j hij (by omega)
  · by_cases e : x = k
    · subst e; exact ⟨c, by omega, la.1, by rw [la.2]; exact (hu z hp2).symm⟩
    · obtain ⟨j, j1, j2, j3⟩ := h.got x z h0 (by omega) hp2
      exact ⟨j, by omega, by rw [(lo j j1).1]; exact j2, by rw [(lo j j1).2]; exact j3⟩

def onP (cs : List Int) (n : Nat) (a m f : Int) : Prop := f = a - ohmsI cs n m ∧ inB f 0 1000 = true
def boP (cs : List Int) (n : Nat) (a t l m f : Int) : Prop := onP cs n a m f ∧ erB cs n m f t l = true
theorem onTo_fl (cs : List Int) (n : Nat) (a : Int) : ∀ k, ∃ c, Fl (onP cs n a) (onTo cs n a k) k c
  | 0 => ⟨0, Fl.zero _⟩
  | k + 1 => by
    obtain ⟨c, h⟩ := onTo_fl cs n a k
    simp only [onTo]
    by_cases hh : inB (a - ohmsI cs n k) 0 1000 = true
    · rw [if_pos hh]
      exact ⟨c + 1, h.yes ⟨rfl, hh⟩ (fun z hz => hz.1)⟩
    · rw [if_neg hh]
      exact ⟨c, h.no fun y hy => hh (by rw [← hy.1]; exact hy.2)⟩
theorem boTo_fl (cs : List Int) (n : Nat) (a t l : Int) : ∀ k, ∃ c, Fl (boP cs n a t l) (boTo cs n a t l k) k c
  | 0 => ⟨0, Fl.zero _⟩
  | k + 1 => by
    obtain ⟨c, h⟩ := boTo_fl cs n a t l k
    simp only [boTo]
    by_cases hh : (inB (a - ohmsI cs n k) 0 1000 && erB cs n k (a - ohmsI cs n k) t l) = true
    · rw [if_pos hh]
      rw [Bool.and_eq_true] at hh
      exact ⟨c + 1, h.yes ⟨⟨rfl, hh.1⟩, hh.2⟩ (fun z hz => hz.1.1)⟩
    · rw [if_neg hh]
      refine ⟨c, h.no fun y hy => hh ?_⟩
      rw [Bool.and_eq_true, ← hy.1.1]
      exact ⟨hy.1.2, hy.2⟩

/-- Three different resistances do not measure the same, open and earthed. -/
theorem two_roots {l t a T r1 r2 r3 : Int} (hl : 1 ≤ l) (h12 : r1 < r2) (h23 : r2 < r3)
    (e1 : t * (a - r1 + (T - r1)) = l * (r1 * (a - r1 + (T - r1)) + (a - r1) * (T - r1)))
    (e2 : t * (a - r2 + (T - r2)) = l * (r2 * (a - r2 + (T - r2)) + (a - r2) * (T - r2)))
    (e3 : t * (a - r3 + (T - r3)) = l * (r3 * (a - r3 + (T - r3)) + (a - r3) * (T - r3))) : False := by
  have norm : ∀ r : Int, r * (a - r + (T - r)) + (a - r) * (T - r) = a * T - r * r := fun r => by
    simp only [Int.mul_add, Int.mul_sub, Int.sub_mul, Int.mul_comm r a, Int.mul_comm r T]
    omega
  rw [norm] at e1 e2 e3
  have d12 : (r2 - r1) * (l * (r1 + r2)) = (r2 - r1) * (2 * t) := by
    have x1 : (r2 - r1) * (l * (r1 + r2)) = l * (r2 * r2) - l * (r1 * r1) := by
      simp only [Int.mul_add, Int.sub_mul, Int.mul_sub, Int.mul_left_comm _ l, Int.mul_comm r1 r2]
      omega
    have x2 : (r2 - r1) * (2 * t) = 2 * (t * r2) - 2 * (t * r1) := by
      rw [Int.sub_mul, Int.mul_left_comm r2, Int.mul_left_comm r1, Int.mul_comm r2, Int.mul_comm r1]
    simp only [Int.mul_add, Int.mul_sub] at e1 e2
    omega
  have d23 : (r3 - r2) * (l * (r2 + r3)) = (r3 - r2) * (2 * t) := by
    have x1 : (r3 - r2) * (l * (r2 + r3)) = l * (r3 * r3) - l * (r2 * r2) := by
      simp only [Int.mul_add, Int.sub_mul, Int.mul_sub, Int.mul_left_comm _ l, Int.mul_comm r2 r3]
      omega
    have x2 : (r3 - r2) * (2 * t) = 2 * (t * r3) - 2 * (t * r2) := by
      rw [Int.sub_mul, Int.mul_left_comm r3, Int.mul_left_comm r2, Int.mul_comm r3, Int.mul_comm r2]
    simp only [Int.mul_add, Int.mul_sub] at e2 e3
    omega
  have f12 := Int.eq_of_mul_eq_mul_left (by omega) d12
  have f23 := Int.eq_of_mul_eq_mul_left (by omega) d23
  have : l * (r1 + r2) = l * (r2 + r3) := f12.trans f23.symm
  have := Int.eq_of_mul_eq_mul_left (by omega) this
  omega

theorem both_two {cs : List Int} {n : Nat} {a t l : Int} (hc : cabB cs n = true) {c : Nat} (h : Fl (boP cs n a t l) (boTo cs n a t l (nMl cs n)) (nMl cs n) c) : c ≤ 2 := by
  rcases Nat.lt_or_ge 2 c with h3 | h3
  · exfalso
    have hn := nMl_eq hc
    have one : ∀ j, j < c → ∃ r, rI cs n (gi (boTo cs n a t l (nMl cs n)) (j * 2)) = r ∧ 1 ≤ l ∧
        t * (a - r + (rI cs n (mlTo cs n) - r)) = l * (r * (a - r + (rI cs n (mlTo cs n) - r)) + (a - r) * (rI cs n (mlTo cs n) - r)) := fun j hj => by
      obtain ⟨h1, h2, ⟨p1, p2⟩, p3⟩ := h.all j hj
      generalize gi (boTo cs n a t l (nMl cs n)) (j * 2) = m at *
      generalize gi (boTo cs n a t l (nMl cs n)) (j * 2 + 1) = f at *
      have hs := sides_bd hc h1 (by omega)
      rw [hs.1] at p1
      simp only [erB, Bool.and_eq_true, beq_iff_eq, hs.1, hs.2.1] at p3
      rw [inB_true] at p2
      have hx := ea_cross (r := rI cs n m) (s := rI cs n (mlTo cs n) - rI cs n m) (f := f) (by omega) (by omega) (by omega)
      have hb := ea_bd (r := rI cs n m) (s := rI cs n (mlTo cs n) - rI cs n m) (f := f) (by omega) (by omega) (by omega)
      rw [p3.1, p3.2] at hx
      refine ⟨_, rfl, by omega, ?_⟩
      rw [p1] at hx
      exact hx
    obtain ⟨r1, q1, hl, e1⟩ := one 0 (by omega)
    obtain ⟨r2, q2, _, e2⟩ := one 1 (by omega)
    obtain ⟨r3, q3, _, e3⟩ := one 2 (by omega)
    have u1 := h.up 0 1 (by omega) (by omega)
    have u2 := h.up 1 2 (by omega) (by omega)
    have a0 := h.all 0 (by omega)
    have a1 := h.all 1 (by omega)
    have a2 := h.all 2 (by omega)
    have m1 := rI_mono (cabB_true.1 hc).2 a0.1 (Int.le_of_lt u1) (by omega)
    have m2 := rI_mono (cabB_true.1 hc).2 a1.1 (Int.le_of_lt u2) (by omega)
    exact two_roots hl (by omega) (by omega) e1 e2 e3
  · exact h3

end Go.Proofs.Ytoanefccnbnkmaa
