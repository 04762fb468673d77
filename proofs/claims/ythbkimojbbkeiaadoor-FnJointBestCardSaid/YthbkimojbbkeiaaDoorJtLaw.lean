/- Plain laws on joints: the best joint is just long enough; more miles need no fewer splices; as few splices as the longest spares need. -/
import Derived.Test.YthbkimojbbkeiaaDoorSortPlain
import Derived.Test.YthbkimojbbkeiaaDoorJtPlain
namespace Go.Proofs.YthbkimojbbkeiaaDoor

theorem jsTo_congr {cs a b : List Int} : ∀ {k : Nat}, (∀ i, i < k → gi a i = gi b i) → jsTo cs a k = jsTo cs b k
  | 0, _ => rfl
  | k + 1, h => by rw [jsTo, jsTo, jsTo_congr (fun i hi => h i (by omega)), h k (by omega)]
/-- The miles of a set, its number, whether it is of a kind, its values. -/
def ssTo (cs : List Int) (s : Nat) : Nat → Int
  | 0 => 0
  | i + 1 => if s.testBit i then ssTo cs s i + smi cs i else ssTo cs s i
def skTo (cs : List Int) (kind : Int) (s n : Nat) : Prop := ∀ i, i < n → s.testBit i = true → ski cs i = kind
def vb (cs : List Int) (s : Nat) : Nat → List (Int × Int)
  | 0 => []
  | i + 1 => if s.testBit i then vb cs s i ++ [(smi cs i, ski cs i)] else vb cs s i
theorem js_bits {cs : List Int} {s : Nat} : ∀ {n : Nat}, jsTo cs (bitsL s n) (bitsL s n).length = ssTo cs s n
  | 0 => rfl
  | n + 1 => by
    rw [bitsL, ssTo]
    split
    · rw [List.length_append, List.length_singleton, jsTo, gi_app_last, jsTo_congr (b := bitsL s n) (fun i hi => gi_app_left hi), js_bits]
      rfl
    · exact js_bits
theorem jk_bits {cs : List Int} {kind : Int} {s n : Nat} : jkTo cs kind (bitsL s n) (bitsL s n).length ↔ skTo cs kind s n := by
  constructor
  · intro h i hi ht
    have hm : (i : Int) ∈ bitsL s n := bitsL_mem.2 ⟨i, hi, rfl, ht⟩
    obtain ⟨x, hx, e⟩ := List.getElem_of_mem hm
    have := h x hx
    rw [gi_eq hx, e] at this
    exact this
  · intro h x hx
    obtain ⟨k, hk, e, ht⟩ := bitsL_at hx
    rw [e]
    exact h k hk ht
theorem gd_iff {cs : List Int} {kind miles : Int} {n s : Nat} (hm : 1 ≤ miles) : gdB cs kind miles n s = true ↔ skTo cs kind s n ∧ miles ≤ ssTo cs s n := by
  unfold gdB jtI
  rw [decide_eq_true_eq]
  by_cases h : jkTo cs kind (bitsL s n) (bitsL s n).length
  · rw [if_pos h, js_bits]
    exact ⟨fun h1 => ⟨jk_bits.1 h, h1⟩, fun h1 => h1.2⟩
  · rw [if_neg h]
    exact ⟨fun h1 => by omega, fun h1 => absurd (jk_bits.2 h1.1) h⟩
theorem len_succ {s n : Nat} : (bitsL s (n + 1)).length = (bitsL s n).length + (if s.testBit n then 1 else 0) := by
  rw [bitsL]
  split <;> simp
theorem ssTo_zero (cs : List Int) : ∀ n, ssTo cs 0 n = 0
  | 0 => rfl
  | n + 1 => by rw [ssTo, ssTo_zero cs n]; simp

/-- A set without one of its spares. -/
def unb (s k : Nat) : Nat := s ^^^ (2 ^ k)
theorem unb_bit {s k i : Nat} (h : s.testBit k = true) : (unb s k).testBit i = (s.testBit i && !decide (i = k)) := by
  unfold unb
  rw [Nat.testBit_xor, Nat.testBit_two_pow]
  by_cases e : k = i
  · subst e; simp [h]
  · have e2 : ¬ i = k := fun h => e h.symm
    simp [e, e2]
theorem unb_lt {s k n : Nat} (hs : s < 2 ^ n) (hk : k < n) : unb s k < 2 ^ n := Nat.xor_lt_two_pow hs (Nat.pow_lt_pow_right (by omega) hk)
theorem unb_ss {cs : List Int} {s k : Nat} (h : s.testBit k = true) : ∀ {n : Nat}, ssTo cs (unb s k) n = ssTo cs s n - (if k < n then smi cs k else 0)
  | 0 => by simp [ssTo]
  | n + 1 => by
    rw [ssTo, ssTo, unb_bit h, unb_ss h]
    by_cases e : n = k
    · subst e
      rw [if_neg (Nat.lt_irrefl n), if_pos (Nat.lt_succ_self n), h]
      simp
    · by_cases hb : s.testBit n = true
      · by_cases hk : k < n
        · rw [if_pos hk, if_pos (show k < n + 1 by omega), hb]; simp [e]; omega
        · rw [if_neg hk, if_neg (show ¬ k < n + 1 by omega), hb]; simp [e]
      · by_cases hk : k < n
        · rw [if_pos hk, if_pos (show k < n + 1 by omega)]; simp [hb]
        · rw [if_neg hk, if_neg (show ¬ k < n + 1 by omega)]; simp [hb]
theorem unb_len {s k : Nat} (h : s.testBit k = true) : ∀ {n : Nat}, (bitsL (unb s k) n).length + (if k < n then 1 else 0) = (bitsL s n).length
  | 0 => by simp [bitsL]
  | n + 1 => by
    have ih := unb_len h (n := n)
    rw [len_succ, len_succ, unb_bit h]
    by_cases e : n = k
    · subst e
      rw [if_neg (Nat.lt_irrefl n)] at ih
      rw [if_pos (Nat.lt_succ_self n), h]
      simp; omega
    · by_cases hb : s.testBit n = true
      · by_cases hk : k < n
        · rw [if_pos hk] at ih
          rw [if_pos (show k < n + 1 by omega), hb]; simp [e]; omega
        · rw [if_neg hk] at ih
          rw [if_neg (show ¬ k < n + 1 by omega), hb]; simp [e]; omega
      · by_cases hk : k < n
        · rw [if_pos hk] at ih
          rw [if_pos (show k < n + 1 by omega)]; simp [hb]; omega
        · rw [if_neg hk] at ih
          rw [if_neg (show ¬ k < n + 1 by omega)]; simp [hb]; omega
theorem unb_sk {cs : List Int} {kind : Int} {s k n : Nat} (h : s.testBit k = true) (hs : skTo cs kind s n) : skTo cs kind (unb s k) n := fun i hi ht => by
  rw [unb_bit h] at ht
  simp only [Bool.and_eq_true] at ht
  exact hs i hi ht.1

/-- What the best joint is. -/
theorem best_is {cs : List Int} {n : Nat} {kind miles : Int} (h : bestJ cs n kind miles ≠ 0) :
    (spTo cs n ∧ n ≤ 10) ∧ (1 ≤ miles ∧ miles ≤ 500) ∧ skTo cs kind (bestJ cs n kind miles) n ∧ miles ≤ ssTo cs (bestJ cs n kind miles) n ∧
    ∀ t, t < 2 ^ n → skTo cs kind t n → miles ≤ ssTo cs t n → (jbL cs n kind miles).length ≤ (bitsL t n).length := by
  unfold jbL
  unfold bestJ at h ⊢
  by_cases hj : jOk cs n miles = true
  · rw [if_pos hj] at h ⊢
    unfold jOk at hj
    rw [Bool.and_eq_true, spB_true, inB_true] at hj
    obtain ⟨⟨h1, h2⟩, h3⟩ := hj
    have hg := (gd_iff h3.1).1 (bj_gd h)
    refine ⟨⟨h2, by omega⟩, h3, hg.1, hg.2, fun t ht hk hm => ?_⟩
    have h0 : t ≠ 0 := by
      rintro rfl
      rw [ssTo_zero] at hm; omega
    exact (bj_min ht h0 ((gd_iff h3.1).2 ⟨hk, hm⟩)).2
  · rw [if_neg hj] at h
    exact absurd rfl h
theorem best_some {cs : List Int} {n t : Nat} {kind miles : Int} (hc : spB 10 cs n = true) (hm : 1 ≤ miles ∧ miles ≤ 500) (ht : t < 2 ^ n) (hk : skTo cs kind t n) (hs : miles ≤ ssTo cs t n) :
    bestJ cs n kind miles ≠ 0 := by
  unfold bestJ jOk
  rw [hc, inB_true.2 hm]
  have h0 : t ≠ 0 := by
    rintro rfl
    rw [ssTo_zero] at hs; omega
  exact (bj_min ht h0 ((gd_iff hm.1).2 ⟨hk, hs⟩)).1

/-- The least miles of the first k of a list, at most 1000. -/
def mnTo (cs : List Int) (l : List Int) : Nat → Int
  | 0 => 1000
  | k + 1 => min (mnTo cs l k) (smi cs (gi l k).toNat)
theorem mnTo_at {cs l : List Int} : ∀ {k : Nat}, 0 < k → (∀ x, x < k → smi cs (gi l x).toNat ≤ 1000) → ∃ x, x < k ∧ mnTo cs l k = smi cs (gi l x).toNat
  | 0, h, _ => absurd h (by omega)
  | k + 1, _, hb => by
    rw [mnTo]
    by_cases h0 : k = 0
    · subst h0
      have := hb 0 (by omega)
      exact ⟨0, by omega, by rw [mnTo]; omega⟩
    · obtain ⟨x, hx, e⟩ := mnTo_at (cs := cs) (l := l) (k := k) (by omega) (fun x hx => hb x (by omega))
      rw [e]
      by_cases h1 : smi cs (gi l x).toNat ≤ smi cs (gi l k).toNat
      · exact ⟨x, by omega, by omega⟩
      · exact ⟨k, by omega, by omega⟩
theorem mnTo_bd {cs l : List Int} : ∀ {k : Nat}, (∀ x, x < k → 1 ≤ smi cs (gi l x).toNat) → 1 ≤ mnTo cs l k ∧ mnTo cs l k ≤ 1000
  | 0, _ => by simp [mnTo]
  | k + 1, hb => by
    have h1 := mnTo_bd (cs := cs) (l := l) (k := k) (fun x hx => hb x (by omega))
    have h2 := hb k (by omega)
    rw [mnTo]; omega

/-- The law of the best joint. -/
theorem jb_law {cs : List Int} {n : Nat} {kind miles : Int} (h : bestJ cs n kind miles ≠ 0) :
    (∀ x, x < (jbL cs n kind miles).length → (0 ≤ gi (jbL cs n kind miles) x ∧ gi (jbL cs n kind miles) x < n) ∧ ski cs (gi (jbL cs n kind miles) x).toNat = kind ∧ (∀ y, y < x → gi (jbL cs n kind miles) y < gi (jbL cs n kind miles) x)) ∧
    miles ≤ jsTo cs (jbL cs n kind miles) (jbL cs n kind miles).length ∧ jsTo cs (jbL cs n kind miles) (jbL cs n kind miles).length - mnTo cs (jbL cs n kind miles) (jbL cs n kind miles).length < miles := by
  obtain ⟨⟨hc, hn⟩, hm, hk, hs, hmin⟩ := best_is h
  have hlt := bestJ_lt (cs := cs) (n := n) (kind := kind) (miles := miles)
  unfold jbL at hmin ⊢
  revert h hk hs hmin hlt
  generalize bestJ cs n kind miles = b
  intro h hk hs hmin hlt
  have hlen : 0 < (bitsL b n).length := by
    cases e : bitsL b n with
    | nil => exact absurd ((bitsL_nil hlt).1 e) h
    | cons x l => simp
  refine ⟨fun x hx => ?_, by rw [js_bits]; exact hs, ?_⟩
  · obtain ⟨k, hkn, e, ht⟩ := bitsL_at hx
    rw [e]
    refine ⟨by omega, hk k hkn ht, fun y hy => ?_⟩
    rw [← e, gi_eq hx, gi_eq (by omega)]
    exact List.pairwise_iff_getElem.1 bitsL_up y x (by omega) hx hy
  · have hb : ∀ x, x < (bitsL b n).length → smi cs (gi (bitsL b n) x).toNat ≤ 1000 := fun x hx => by
      obtain ⟨k, hkn, e, ht⟩ := bitsL_at hx
      have := (hc k hkn).1
      rw [e]
      have e2 : ((k : Int)).toNat = k := by omega
      rw [e2]; omega
    obtain ⟨x, hx, e⟩ := mnTo_at hlen hb
    obtain ⟨k, hkn, ek, ht⟩ := bitsL_at hx
    rw [ek] at e
    have e2 : ((k : Int)).toNat = k := by omega
    rw [e2] at e
    rw [e, js_bits]
    by_cases hlt2 : ssTo cs b n - smi cs k < miles
    · exact hlt2
    · have h1 := hmin (unb b k) (unb_lt hlt hkn) (unb_sk ht hk) (by rw [unb_ss ht, if_pos hkn]; omega)
      have h2 := unb_len ht (n := n)
      rw [if_pos hkn] at h2
      omega

/-- The miles of a set of a kind are among all of the kind. -/
theorem ss_le_km {cs : List Int} {kind : Int} {s : Nat} : ∀ {n : Nat}, spTo cs n → skTo cs kind s n → ssTo cs s n ≤ kmTo cs kind n
  | 0, _, _ => by simp [ssTo, kmTo]
  | n + 1, hc, hk => by
    have ih := ss_le_km (spTo_mono hc (Nat.le_succ n)) (fun i hi ht => hk i (by omega) ht)
    have h1 := (hc n (by omega)).1
    rw [ssTo, kmTo]
    by_cases ht : s.testBit n = true
    · rw [if_pos ht, if_pos (hk n (by omega) ht)]; omega
    · rw [if_neg ht]
      split <;> omega
theorem one_bits {i : Nat} : ∀ {n : Nat}, (bitsL (2 ^ i) n).length = (if i < n then 1 else 0)
  | 0 => by simp [bitsL]
  | n + 1 => by
    rw [len_succ, one_bits, Nat.testBit_two_pow]
    by_cases e : i = n
    · subst e
      rw [if_neg (Nat.lt_irrefl i), if_pos (Nat.lt_succ_self i)]; simp
    · by_cases h : i < n
      · rw [if_pos h, if_pos (show i < n + 1 by omega)]; simp [e]
      · rw [if_neg h, if_neg (show ¬ i < n + 1 by omega)]; simp [e]
theorem one_ss {cs : List Int} {i : Nat} : ∀ {n : Nat}, ssTo cs (2 ^ i) n = (if i < n then smi cs i else 0)
  | 0 => by simp [ssTo]
  | n + 1 => by
    rw [ssTo, one_ss, Nat.testBit_two_pow]
    by_cases e : i = n
    · subst e
      rw [if_neg (Nat.lt_irrefl i), if_pos (Nat.lt_succ_self i)]; simp
    · by_cases h : i < n
      · rw [if_pos h, if_pos (show i < n + 1 by omega)]; simp [e]
      · rw [if_neg h, if_neg (show ¬ i < n + 1 by omega)]; simp [e]
theorem one_sk {cs : List Int} {kind : Int} {i n : Nat} (h : ski cs i = kind) : skTo cs kind (2 ^ i) n := fun j _ ht => by
  rw [Nat.testBit_two_pow] at ht
  have : i = j := by simpa using ht
  subst this; exact h

theorem fit_some {cs : List Int} {n : Nat} {nm nk : Int} (ho : fitOk cs n nm nk = true) : fitB cs n nm nk = true ↔ ∃ i, i < n ∧ srB (smi cs i) (ski cs i) nm nk = true := by
  have hb := fitTo_best (cs := cs) (nm := nm) (nk := nk) (k := n)
  have hd := fitTo_bd (cs := cs) (nm := nm) (nk := nk) (k := n)
  unfold fitB fitR
  rw [if_pos ho, decide_eq_true_eq]
  constructor
  · intro h
    exact ⟨_, by omega, (hb.2 h).1⟩
  · rintro ⟨i, hi, h⟩
    by_cases h0 : 0 ≤ fitTo cs nm nk n
    · exact h0
    · have := hb.1 (by omega) i hi
      rw [this] at h; cases h

/-- The law of more miles. -/
theorem jf_law {cs : List Int} {n : Nat} {kind miles : Int} (h : bestJ cs n kind miles ≠ 0) :
    miles ≤ kmI cs n kind ∧ (miles = 1 ∨ (bestJ cs n kind (miles - 1) ≠ 0 ∧ jfI cs n kind (miles - 1) ≤ jfI cs n kind miles)) ∧ (50 < miles ∨ decide (jfI cs n kind miles = 0) = fitB cs n miles kind) := by
  have h0 := h
  obtain ⟨⟨hc, hn⟩, hm, hk, hs, hmin⟩ := best_is h
  have hsp : spB 10 cs n = true := spB_true.2 ⟨by omega, hc⟩
  have hlt := bestJ_lt (cs := cs) (n := n) (kind := kind) (miles := miles)
  have hlen : 0 < (jbL cs n kind miles).length := by
    unfold jbL
    cases e : bitsL (bestJ cs n kind miles) n with
    | nil => exact absurd ((bitsL_nil hlt).1 e) h
    | cons x l => simp
  refine ⟨?_, ?_, ?_⟩
  · rw [kmI_yes hsp]
    have := ss_le_km hc hk
    omega
  · by_cases h1 : miles = 1
    · exact .inl h1
    · have h2 := best_some (miles := miles - 1) hsp (by omega) hlt hk (by omega)
      refine .inr ⟨h2, ?_⟩
      have h3 := (best_is h2).2.2.2.2 _ hlt hk (by omega)
      unfold jfI
      rw [if_neg h2, if_neg h]
      unfold jbL at h3 ⊢
      omega
  · by_cases h50 : 50 < miles
    · exact .inl h50
    · refine .inr ?_
      have hj : jfI cs n kind miles = ((jbL cs n kind miles).length : Int) - 1 := by unfold jfI; rw [if_neg h]
      obtain ⟨k, hkn, e, ht⟩ := bitsL_at (s := bestJ cs n kind miles) (n := n) (i := 0) hlen
      have hkk := hk k hkn ht
      have hok := hc k hkn
      have ho : fitOk cs n miles kind = true := by
        unfold fitOk
        rw [hsp, inB_true.2 (by omega), inB_true.2 (by rw [← hkk]; exact hok.2)]; rfl
      rw [Bool.eq_iff_iff, decide_eq_true_eq, fit_some ho, hj]
      constructor
      · intro h1
        have h2 := unb_len ht (n := n)
        rw [if_pos hkn] at h2
        have h3 : (bitsL (unb (bestJ cs n kind miles) k) n).length = 0 := by unfold jbL at h1; omega
        have h4 : unb (bestJ cs n kind miles) k = 0 := (bitsL_nil (unb_lt hlt hkn)).1 (List.eq_nil_of_length_eq_zero h3)
        have h5 := unb_ss (cs := cs) ht (n := n)
        rw [h4, ssTo_zero, if_pos hkn] at h5
        exact ⟨k, hkn, srB_true.2 ⟨hkk, by omega⟩⟩
      · rintro ⟨i, hi, hsr⟩
        rw [srB_true] at hsr
        have h1 := hmin (2 ^ i) (Nat.pow_lt_pow_right (by omega) hi) (one_sk hsr.1) (by rw [one_ss, if_pos hi]; exact hsr.2)
        rw [one_bits, if_pos hi] at h1
        omega

end Go.Proofs.YthbkimojbbkeiaaDoor
