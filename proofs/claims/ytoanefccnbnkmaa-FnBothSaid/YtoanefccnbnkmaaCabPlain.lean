/- Plain facts on cables, given as flat lists (miles, kind, ohms of each section); nothing of the program. -/
import Derived.Test.YtoanefccnbnkmaaPlain
namespace Go.Proofs.Ytoanefccnbnkmaa

def mi (cs : List Int) (i : Nat) : Int := gi cs (i * 3)
def ki (cs : List Int) (i : Nat) : Int := gi cs (i * 3 + 1)
def oi (cs : List Int) (i : Nat) : Int := gi cs (i * 3 + 2)

def secOk (cs : List Int) (i : Nat) : Prop := (1 ≤ mi cs i ∧ mi cs i ≤ 50) ∧ (0 ≤ ki cs i ∧ ki cs i ≤ 3) ∧ (1 ≤ oi cs i ∧ oi cs i ≤ 20)
instance (cs : List Int) (i : Nat) : Decidable (secOk cs i) := by unfold secOk; infer_instance
/-- The first k sections are sections. -/
def cabTo (cs : List Int) (k : Nat) : Prop := ∀ i, i < k → secOk cs i
instance (cs : List Int) (k : Nat) : Decidable (cabTo cs k) := by unfold cabTo; infer_instance
/-- A list of n sections is a cable. -/
def cabB (cs : List Int) (n : Nat) : Bool := decide ((1 ≤ n ∧ n ≤ 8) ∧ cabTo cs n)
theorem cabB_true {cs : List Int} {n : Nat} : cabB cs n = true ↔ (1 ≤ n ∧ n ≤ 8) ∧ cabTo cs n := by simp [cabB]
theorem cabB_no_at {cs : List Int} {n k : Nat} (hk : k < n) (h : ¬ secOk cs k) : cabB cs n = false := by
  cases e : cabB cs n with
  | false => rfl
  | true => exact absurd ((cabB_true.1 e).2 k hk) h
theorem cabB_all {cs : List Int} {n : Nat} (h : cabTo cs n) : cabB cs n = inB (n : Int) 1 8 := by
  rw [Bool.eq_iff_iff, cabB_true, inB_true]
  constructor
  · rintro ⟨h1, _⟩; omega
  · intro h1; exact ⟨by omega, h⟩
theorem cabTo_zero (cs : List Int) : cabTo cs 0 := fun i hi => absurd hi (by omega)
theorem cabTo_succ {cs : List Int} {k : Nat} (h : cabTo cs k) (h1 : secOk cs k) : cabTo cs (k + 1) := fun i hi => by
  by_cases e : i = k
  · subst e; exact h1
  · exact h i (by omega)
theorem cabTo_mono {cs : List Int} {k m : Nat} (h : cabTo cs k) (hm : m ≤ k) : cabTo cs m := fun i hi => h i (by omega)

/-- The miles of the first k sections. -/
def mlTo (cs : List Int) : Nat → Int
  | 0 => 0
  | k + 1 => mlTo cs k + mi cs k
theorem mlTo_bd {cs : List Int} : ∀ {k : Nat}, cabTo cs k → (k : Int) ≤ mlTo cs k ∧ mlTo cs k ≤ 50 * k
  | 0, _ => by simp [mlTo]
  | k + 1, h => by
    have h1 := mlTo_bd (cabTo_mono h (Nat.le_succ k))
    have h2 := (h k (by omega)).1
    simp only [mlTo]
    omega
/-- What CableMiles answers. -/
def milesI (cs : List Int) (n : Nat) : Int := if cabB cs n then mlTo cs n else -1
theorem milesI_no {cs : List Int} {n : Nat} (h : cabB cs n = false) : milesI cs n = -1 := by simp [milesI, h]
theorem milesI_yes {cs : List Int} {n : Nat} (h : cabB cs n = true) : milesI cs n = mlTo cs n := by simp [milesI, h]
theorem milesI_bd {cs : List Int} {n : Nat} : -1 ≤ milesI cs n ∧ milesI cs n ≤ 400 := by
  cases h : cabB cs n with
  | false => rw [milesI_no h]; omega
  | true =>
    rw [milesI_yes h]
    have h1 := cabB_true.1 h
    have := mlTo_bd h1.2
    omega
theorem milesI_pos {cs : List Int} {n : Nat} (h : cabB cs n = true) : 1 ≤ milesI cs n := by
  rw [milesI_yes h]
  have h1 := cabB_true.1 h
  have := mlTo_bd h1.2
  omega

/-- The resistance of the first k sections up to m miles, and the miles that are left. -/
def ohTo (cs : List Int) (m : Int) : Nat → Int × Int
  | 0 => (0, m)
  | k + 1 => ((ohTo cs m k).1 + min (ohTo cs m k).2 (mi cs k) * oi cs k, (ohTo cs m k).2 - min (ohTo cs m k).2 (mi cs k))
theorem ohTo_left {cs : List Int} {m : Int} (hm : 0 ≤ m) : ∀ {k : Nat}, cabTo cs k → (ohTo cs m k).2 = max 0 (m - mlTo cs k)
  | 0, _ => by simp only [ohTo, mlTo]; omega
  | k + 1, h => by
    have h1 := ohTo_left hm (cabTo_mono h (Nat.le_succ k))
    have h2 := (h k (by omega)).1
    simp only [ohTo, mlTo, h1]
    omega
theorem part_bd {l a o : Int} (h1 : 0 ≤ l) (h2 : 1 ≤ a ∧ a ≤ 50) (h3 : 1 ≤ o ∧ o ≤ 20) : 0 ≤ min l a ∧ min l a ≤ 50 ∧ 0 ≤ min l a * o ∧ min l a * o ≤ 1000 := by
  have h4 : 0 ≤ min l a ∧ min l a ≤ 50 := by omega
  refine ⟨h4.1, h4.2, Int.mul_nonneg h4.1 (by omega), ?_⟩
  have := Int.mul_le_mul h4.2 h3.2 (by omega) (by omega)
  omega
theorem ohTo_bd {cs : List Int} {m : Int} (hm : 0 ≤ m) : ∀ {k : Nat}, cabTo cs k → 0 ≤ (ohTo cs m k).1 ∧ (ohTo cs m k).1 ≤ 1000 * k ∧ 0 ≤ (ohTo cs m k).2 ∧ (ohTo cs m k).2 ≤ m
  | 0, _ => by simp [ohTo]; omega
  | k + 1, h => by
    have h1 := ohTo_bd hm (cabTo_mono h (Nat.le_succ k))
    have h2 := h k (by omega)
    have h3 := part_bd h1.2.2.1 h2.1 h2.2.2
    simp only [ohTo]
    omega

/-- The sum of a list. -/
def sm : List Int → Int
  | [] => 0
  | a :: l => a + sm l
theorem sm_app (a b : List Int) : sm (a ++ b) = sm a + sm b := by
  induction a with
  | nil => simp [sm]
  | cons x l ih => simp only [List.cons_append, sm, ih]; omega
theorem sm_rep (n : Nat) (x : Int) : sm (List.replicate n x) = n * x := by
  induction n with
  | zero => simp [sm]
  | succ n ih =>
    rw [List.replicate_succ, sm, ih, Int.natCast_add, Int.add_mul]
    omega
theorem sm_rev (a : List Int) : sm a.reverse = sm a := by
  induction a with
  | nil => rfl
  | cons x l ih => rw [List.reverse_cons, sm_app, ih]; simp only [sm]; omega

/-- A cable mile by mile. -/
def ex (f : Nat → Int × Int) : Nat → List Int
  | 0 => []
  | k + 1 => ex f k ++ List.replicate (f k).1.toNat (f k).2
theorem ex_congr {f g : Nat → Int × Int} : ∀ {n : Nat}, (∀ i, i < n → f i = g i) → ex f n = ex g n
  | 0, _ => rfl
  | n + 1, h => by
    have ih := ex_congr (n := n) (fun i hi => h i (by omega))
    rw [ex, ex, ih, h n (by omega)]
theorem ex_head (f : Nat → Int × Int) : ∀ n, ex f (n + 1) = List.replicate (f 0).1.toNat (f 0).2 ++ ex (fun i => f (i + 1)) n
  | 0 => by simp [ex]
  | n + 1 => by
    have := ex_head f n
    rw [ex, this, ex, List.append_assoc]
theorem ex_rev (f : Nat → Int × Int) : ∀ n, (ex f n).reverse = ex (fun i => f (n - 1 - i)) n
  | 0 => rfl
  | n + 1 => by
    rw [ex, List.reverse_append, ex_rev f n, List.reverse_replicate, ex_head]
    congr 1
    refine ex_congr fun i hi => ?_
    congr 1
    omega

def exC (cs : List Int) (n : Nat) : List Int := ex (fun i => (mi cs i, oi cs i)) n
theorem exC_len {cs : List Int} : ∀ {n : Nat}, cabTo cs n → ((exC cs n).length : Int) = mlTo cs n
  | 0, _ => rfl
  | n + 1, h => by
    have h1 := exC_len (cabTo_mono h (Nat.le_succ n))
    have h2 := (h n (by omega)).1
    simp only [exC] at h1
    simp only [exC, ex, mlTo, List.length_append, List.length_replicate]
    omega
theorem exC_ge {cs : List Int} : ∀ {n : Nat}, cabTo cs n → ∀ x ∈ exC cs n, 1 ≤ x
  | 0, _, x, hx => by simp [exC, ex] at hx
  | n + 1, h, x, hx => by
    simp only [exC, ex, List.mem_append, List.mem_replicate] at hx
    rcases hx with hx | ⟨_, rfl⟩
    · exact exC_ge (cabTo_mono h (Nat.le_succ n)) x hx
    · exact (h n (by omega)).2.2.1
theorem exC_oh {cs : List Int} {m : Int} (hm : 0 ≤ m) : ∀ {n : Nat}, cabTo cs n → (ohTo cs m n).1 = sm ((exC cs n).take m.toNat)
  | 0, _ => by simp [ohTo, exC, ex, sm]
  | n + 1, h => by
    have hc := cabTo_mono h (Nat.le_succ n)
    have h1 := exC_oh hm hc
    have h2 := (h n (by omega)).1
    have h3 := ohTo_left hm hc
    have h4 := exC_len hc
    simp only [exC] at h1 h4
    have e : ((min (m.toNat - (ex (fun i => (mi cs i, oi cs i)) n).length) (mi cs n).toNat : Nat) : Int) = min (max 0 (m - mlTo cs n)) (mi cs n) := by omega
    simp only [ohTo, exC, ex, List.take_append, sm_app, List.take_replicate, sm_rep, h1, h3, e]

/-- The resistance up to a mile. -/
def rI (cs : List Int) (n : Nat) (m : Int) : Int := (ohTo cs m n).1
theorem rI_zero {cs : List Int} {n : Nat} (h : cabTo cs n) : rI cs n 0 = 0 := by
  unfold rI
  rw [exC_oh (Int.le_refl _) h]
  simp [sm]
theorem sm_take_mono {l : List Int} (h : ∀ x ∈ l, 1 ≤ x) : ∀ {a b : Nat}, a ≤ b → b ≤ l.length → sm (l.take a) + ((b - a : Nat) : Int) ≤ sm (l.take b) := by
  induction l with
  | nil => intro a b h1 h2; simp at h2; subst h2; simp [sm]
  | cons x l ih =>
    intro a b h1 h2
    have hx := h x (by simp)
    have ih' : ∀ {a b : Nat}, a ≤ b → b ≤ l.length → sm (l.take a) + ((b - a : Nat) : Int) ≤ sm (l.take b) := fun {a b} => ih (fun y hy => h y (by simp [hy]))
    match a, b with
    | 0, 0 => simp [sm]
    | 0, b + 1 =>
      have := ih' (a := 0) (b := b) (Nat.zero_le _) (by simpa using h2)
      simp only [List.take_zero, sm, List.take_succ_cons] at this ⊢
      omega
    | a + 1, b + 1 =>
      have := ih' (a := a) (b := b) (by omega) (by simpa using h2)
      simp only [sm, List.take_succ_cons]
      omega
theorem rI_mono {cs : List Int} {n : Nat} (h : cabTo cs n) {a b : Int} (h0 : 0 ≤ a) (h1 : a ≤ b) (h2 : b ≤ mlTo cs n) : rI cs n a + (b - a) ≤ rI cs n b := by
  unfold rI
  rw [exC_oh h0 h, exC_oh (by omega) h]
  have := sm_take_mono (exC_ge h) (a := a.toNat) (b := b.toNat) (by omega) (by have := exC_len h; omega)
  omega
theorem rI_bd {cs : List Int} {n : Nat} (h : cabB cs n = true) {m : Int} (h0 : 0 ≤ m) : 0 ≤ rI cs n m ∧ rI cs n m ≤ 8000 := by
  have h1 := cabB_true.1 h
  have := ohTo_bd h0 h1.2
  unfold rI
  omega

/-- A cable turned round. -/
def rvC (cs : List Int) (n : Nat) : List Int := (List.range (n * 3)).map fun j => gi cs ((n - 1 - j / 3) * 3 + j % 3)
theorem rvC_len (cs : List Int) (n : Nat) : (rvC cs n).length = n * 3 := by simp [rvC]
theorem rvC_gi {cs : List Int} {n j : Nat} (h : j < n * 3) : gi (rvC cs n) j = gi cs ((n - 1 - j / 3) * 3 + j % 3) := by
  unfold rvC
  simp [gi, h]
theorem rvC_mi {cs : List Int} {n i : Nat} (h : i < n) : mi (rvC cs n) i = mi cs (n - 1 - i) := by
  unfold mi
  rw [rvC_gi (by omega), show i * 3 / 3 = i from by omega, show i * 3 % 3 = 0 from by omega]; rfl
theorem rvC_ki {cs : List Int} {n i : Nat} (h : i < n) : ki (rvC cs n) i = ki cs (n - 1 - i) := by
  unfold ki
  rw [rvC_gi (by omega), show (i * 3 + 1) / 3 = i from by omega, show (i * 3 + 1) % 3 = 1 from by omega]
theorem rvC_oi {cs : List Int} {n i : Nat} (h : i < n) : oi (rvC cs n) i = oi cs (n - 1 - i) := by
  unfold oi
  rw [rvC_gi (by omega), show (i * 3 + 2) / 3 = i from by omega, show (i * 3 + 2) % 3 = 2 from by omega]
theorem rvC_cab {cs : List Int} {n : Nat} (h : cabB cs n = true) : cabB (rvC cs n) n = true := by
  obtain ⟨h1, h2⟩ := cabB_true.1 h
  refine cabB_true.2 ⟨h1, fun i hi => ?_⟩
  unfold secOk
  rw [rvC_mi hi, rvC_ki hi, rvC_oi hi]
  exact h2 (n - 1 - i) (by omega)
theorem rvC_ex (cs : List Int) (n : Nat) : exC (rvC cs n) n = (exC cs n).reverse := by
  unfold exC
  rw [ex_rev]
  exact ex_congr fun i hi => by rw [rvC_mi hi, rvC_oi hi]
theorem rvC_ml {cs : List Int} {n : Nat} (h : cabB cs n = true) : mlTo (rvC cs n) n = mlTo cs n := by
  have h1 := exC_len (cabB_true.1 h).2
  have h2 := exC_len (cabB_true.1 (rvC_cab h)).2
  rw [rvC_ex, List.length_reverse] at h2
  omega
theorem rvC_rI {cs : List Int} {n : Nat} (h : cabB cs n = true) {m : Int} (h0 : 0 ≤ m) (h1 : m ≤ mlTo cs n) : rI (rvC cs n) n (mlTo cs n - m) = rI cs n (mlTo cs n) - rI cs n m := by
  have hc := (cabB_true.1 h).2
  have hr := (cabB_true.1 (rvC_cab h)).2
  unfold rI
  rw [exC_oh (by omega) hr, exC_oh (by omega) hc, exC_oh h0 hc, rvC_ex]
  have hl := exC_len hc
  generalize exC cs n = E at hl
  have e1 : E.take (mlTo cs n).toNat = E := List.take_of_length_le (by omega)
  have e2 : E.reverse.take (mlTo cs n - m).toNat = (E.drop m.toNat).reverse := by
    rw [List.take_reverse, show E.length - (mlTo cs n - m).toNat = m.toNat from by omega]
  rw [e1, e2, sm_rev]
  have : sm (E.take m.toNat ++ E.drop m.toNat) = sm E := by rw [List.take_append_drop]
  rw [sm_app] at this
  omega

/-- What CableOhms answers. -/
def ohmsI (cs : List Int) (n : Nat) (m : Int) : Int := if inB m 0 (milesI cs n) then rI cs n m else -1
def allI (cs : List Int) (n : Nat) : Int := ohmsI cs n (milesI cs n)
theorem ohmsI_yes {cs : List Int} {n : Nat} {m : Int} (h0 : 0 ≤ m) (h1 : m ≤ milesI cs n) : ohmsI cs n m = rI cs n m := by
  unfold ohmsI
  rw [if_pos (inB_true.2 ⟨h0, h1⟩)]
theorem ohmsI_bd {cs : List Int} {n : Nat} {m : Int} : -1 ≤ ohmsI cs n m ∧ ohmsI cs n m ≤ 8000 := by
  unfold ohmsI
  split
  · rename_i h
    obtain ⟨h0, h1⟩ := inB_true.1 h
    cases hc : cabB cs n with
    | false => rw [milesI_no hc] at h1; omega
    | true => have := rI_bd hc h0; omega
  · omega
theorem allI_yes {cs : List Int} {n : Nat} (h : cabB cs n = true) : allI cs n = rI cs n (mlTo cs n) := by
  unfold allI
  rw [ohmsI_yes (by have := milesI_pos h; omega) (Int.le_refl _), milesI_yes h]

end Go.Proofs.Ytoanefccnbnkmaa
