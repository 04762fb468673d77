/- Plain facts on servings: which lists are servings, their count, their least waste, the best one; nothing of the program. -/
import Derived.Test.YthbkimojbbkeiaaDoorSpPlain
namespace Go.Proofs.YthbkimojbbkeiaaDoor

def memB (xs : List Int) (x : Int) : Bool := decide (x ∈ xs)

/-- Spare k may serve the next need behind p. -/
def okAt (cs ds : List Int) (p : List Int) (k : Nat) : Bool := !memB p k && srB (smi cs k) (ski cs k) (smi ds p.length) (ski ds p.length)
/-- The waste of spare k at need i. -/
def wsAt (cs ds : List Int) (k i : Nat) : Int := smi cs k - smi ds i
/-- The waste of a list. -/
def wst (cs ds : List Int) : List Int → Nat → Int
  | _, 0 => 0
  | sv, i + 1 => wst cs ds sv i + (smi cs (gi sv i).toNat - smi ds i)

theorem gi_app_left {xs ys : List Int} {k : Nat} (h : k < xs.length) : gi (xs ++ ys) k = gi xs k := by unfold gi; rw [List.getElem?_append_left h]
theorem gi_app_last {xs : List Int} {y : Int} : gi (xs ++ [y]) xs.length = y := by simp [gi]
theorem wst_congr {cs ds xs ys : List Int} : ∀ {m : Nat}, (∀ i, i < m → gi xs i = gi ys i) → wst cs ds xs m = wst cs ds ys m
  | 0, _ => rfl
  | m + 1, h => by
    rw [wst, wst, wst_congr (fun i hi => h i (by omega)), h m (by omega)]
theorem wst_push {cs ds xs : List Int} {k : Nat} : wst cs ds (xs ++ [(k : Int)]) (xs ++ [(k : Int)]).length = wst cs ds xs xs.length + wsAt cs ds k xs.length := by
  rw [List.length_append, List.length_singleton, wst, gi_app_last, wst_congr (ys := xs) (fun i hi => gi_app_left hi)]
  simp [wsAt]

/-- f 0 ++ .. ++ f (n - 1). -/
def cat {α : Type} (f : Nat → List α) : Nat → List α
  | 0 => []
  | k + 1 => cat f k ++ f k
theorem mem_cat {α : Type} {f : Nat → List α} {a : α} : ∀ {n : Nat}, a ∈ cat f n ↔ ∃ k, k < n ∧ a ∈ f k
  | 0 => by simp [cat]
  | n + 1 => by
    rw [cat, List.mem_append, mem_cat]
    constructor
    · rintro (⟨k, hk, h⟩ | h)
      · exact ⟨k, by omega, h⟩
      · exact ⟨n, by omega, h⟩
    · rintro ⟨k, hk, h⟩
      by_cases e : k = n
      · subst e; exact .inr h
      · exact .inl ⟨k, by omega, h⟩

/-- All servings that begin with p and have d more. -/
def servs (cs ds : List Int) (n : Nat) : Nat → List Int → List (List Int)
  | 0, p => [p]
  | d + 1, p => cat (fun k => if okAt cs ds p k then servs cs ds n d (p ++ [(k : Int)]) else []) n
/-- What has come of them when k spares are tried. -/
def servsTo (cs ds : List Int) (n d : Nat) (p : List Int) (k : Nat) : List (List Int) := cat (fun k => if okAt cs ds p k then servs cs ds n d (p ++ [(k : Int)]) else []) k
theorem servsTo_no {cs ds : List Int} {n d k : Nat} {p : List Int} (h : okAt cs ds p k = false) : servsTo cs ds n d p (k + 1) = servsTo cs ds n d p k := by simp [servsTo, cat, h]
theorem servsTo_yes {cs ds : List Int} {n d k : Nat} {p : List Int} (h : okAt cs ds p k = true) : servsTo cs ds n d p (k + 1) = servsTo cs ds n d p k ++ servs cs ds n d (p ++ [(k : Int)]) := by simp [servsTo, cat, h]
theorem servs_succ {cs ds : List Int} {n d : Nat} {p : List Int} : servs cs ds n (d + 1) p = servsTo cs ds n d p n := rfl

/-- How many they are. -/
def manyI (cs ds : List Int) (n d : Nat) (p : List Int) : Nat := (servs cs ds n d p).length
def manyTo (cs ds : List Int) (n d : Nat) (p : List Int) (k : Nat) : Nat := (servsTo cs ds n d p k).length
theorem manyTo_no {cs ds : List Int} {n d k : Nat} {p : List Int} (h : okAt cs ds p k = false) : manyTo cs ds n d p (k + 1) = manyTo cs ds n d p k := by simp [manyTo, servsTo_no h]
theorem manyTo_yes {cs ds : List Int} {n d k : Nat} {p : List Int} (h : okAt cs ds p k = true) : manyTo cs ds n d p (k + 1) = manyTo cs ds n d p k + manyI cs ds n d (p ++ [(k : Int)]) := by simp [manyTo, manyI, servsTo_yes h]
theorem many_bd (cs ds : List Int) (n : Nat) : ∀ (d : Nat) (p : List Int), manyI cs ds n d p ≤ n ^ d
  | 0, _ => by simp [manyI, servs]
  | d + 1, p => by
    have key : ∀ k, manyTo cs ds n d p k ≤ k * n ^ d := by
      intro k
      induction k with
      | zero => simp [manyTo, servsTo, cat]
      | succ k ih =>
        have hd := many_bd cs ds n d (p ++ [(k : Int)])
        cases h : okAt cs ds p k with
        | false => rw [manyTo_no h, Nat.succ_mul]; omega
        | true => rw [manyTo_yes h, Nat.succ_mul]; omega
    have := key n
    rw [Nat.pow_succ, Nat.mul_comm]
    exact this
theorem many_bd5 {cs ds : List Int} {n d : Nat} {p : List Int} (hn : n ≤ 10) (hd : d ≤ 5) : manyI cs ds n d p ≤ 100000 := by
  refine Nat.le_trans (many_bd cs ds n d p) (Nat.le_trans (Nat.pow_le_pow_left hn d) ?_)
  exact Nat.le_trans (Nat.pow_le_pow_right (by omega) hd) (by omega)
theorem manyTo_bd {cs ds : List Int} {n d : Nat} {p : List Int} (hn : n ≤ 10) (hd : d ≤ 5) : ∀ {k : Nat}, manyTo cs ds n d p k ≤ k * 100000
  | 0 => by simp [manyTo, servsTo, cat]
  | k + 1 => by
    have h1 := manyTo_bd (cs := cs) (ds := ds) (p := p) hn hd (k := k)
    have h2 := many_bd5 (cs := cs) (ds := ds) (p := p ++ [(k : Int)]) hn hd
    cases h : okAt cs ds p k with
    | false => have := manyTo_no h (n := n) (d := d); omega
    | true => have := manyTo_yes h (n := n) (d := d); omega

/-- The least waste behind p when k spares are tried, each with the rest f; -1 for none. -/
def leTo (cs ds : List Int) (p : List Int) (f : Nat → Int) : Nat → Int
  | 0 => -1
  | k + 1 => if okAt cs ds p k && (decide (0 ≤ f k) && (decide (leTo cs ds p f k < 0) || decide (wsAt cs ds k p.length + f k < leTo cs ds p f k))) then wsAt cs ds k p.length + f k else leTo cs ds p f k
def leastI (cs ds : List Int) (n : Nat) : Nat → List Int → Int
  | 0, _ => 0
  | d + 1, p => leTo cs ds p (fun k => leastI cs ds n d (p ++ [(k : Int)])) n
theorem okAt_ws {cs ds p : List Int} {k : Nat} (h : okAt cs ds p k = true) : 0 ≤ wsAt cs ds k p.length := by
  simp only [okAt, Bool.and_eq_true, srB_true] at h
  unfold wsAt; omega
theorem leTo_bd {cs ds p : List Int} {f : Nat → Int} {B : Int} {k : Nat} (hc : spTo cs k) (hd : 0 ≤ smi ds p.length) (hf : ∀ i, i < k → -1 ≤ f i ∧ f i ≤ B) (hB : 0 ≤ B) : -1 ≤ leTo cs ds p f k ∧ leTo cs ds p f k ≤ B + 50 := by
  induction k with
  | zero => simp [leTo]; omega
  | succ k ih =>
    have h1 := ih (spTo_mono hc (Nat.le_succ k)) (fun i hi => hf i (by omega))
    have h2 := hf k (by omega)
    have h3 := (hc k (by omega)).1
    rw [leTo]
    split
    · rename_i h
      simp only [Bool.and_eq_true, decide_eq_true_eq] at h
      have := okAt_ws h.1
      unfold wsAt at this ⊢
      omega
    · exact h1
theorem leastI_bd {cs ds : List Int} {n m : Nat} (hc : spTo cs n) (hd : spTo ds m) : ∀ (d : Nat) (p : List Int), p.length + d = m → -1 ≤ leastI cs ds n d p ∧ leastI cs ds n d p ≤ 50 * d
  | 0, _, _ => by simp [leastI]
  | d + 1, p, h => by
    have h1 := (hd p.length (by omega)).1
    have := leTo_bd (p := p) (f := fun k => leastI cs ds n d (p ++ [(k : Int)])) (B := 50 * d) hc (ds := ds) (by omega) (fun i hi => leastI_bd hc hd d _ (by simp; omega)) (by omega)
    rw [leastI]
    omega

/-- The first with the least waste. -/
def better (cs ds : List Int) (m : Nat) (b : Option (List Int)) (s : List Int) : Option (List Int) :=
  match b with
  | none => some s
  | some x => if wst cs ds s m < wst cs ds x m then some s else some x
def bestOf (cs ds : List Int) (m : Nat) (l : List (List Int)) : Option (List Int) := l.foldl (better cs ds m) none
theorem bestOf_push {cs ds : List Int} {m : Nat} {l : List (List Int)} {s : List Int} : bestOf cs ds m (l ++ [s]) = better cs ds m (bestOf cs ds m l) s := by simp [bestOf, List.foldl_append]
theorem best_fold {cs ds : List Int} {m : Nat} (x : List Int) : ∀ (l : List (List Int)), l.foldl (better cs ds m) (some x) = match bestOf cs ds m l with
    | none => some x
    | some y => if wst cs ds y m < wst cs ds x m then some y else some x
  | [] => rfl
  | s :: l => by
    have h1 : bestOf cs ds m (s :: l) = l.foldl (better cs ds m) (some s) := rfl
    rw [h1, best_fold s l, List.foldl_cons, better]
    by_cases h : wst cs ds s m < wst cs ds x m
    · rw [if_pos h, best_fold s l]
      cases bestOf cs ds m l with
      | none => simp [h]
      | some y =>
        by_cases h2 : wst cs ds y m < wst cs ds s m
        · have h3 : wst cs ds y m < wst cs ds x m := by omega
          simp [h2, h3]
        · simp [h2, h]
    · rw [if_neg h, best_fold x l]
      cases bestOf cs ds m l with
      | none => simp [h]
      | some y =>
        by_cases h2 : wst cs ds y m < wst cs ds s m
        · simp [h2]
        · have h3 : ¬ wst cs ds y m < wst cs ds x m := by omega
          simp [h2, h3, h]
theorem bestOf_app {cs ds : List Int} {m : Nat} (a b : List (List Int)) : bestOf cs ds m (a ++ b) = match bestOf cs ds m a with
    | none => bestOf cs ds m b
    | some x => match bestOf cs ds m b with
      | none => some x
      | some y => if wst cs ds y m < wst cs ds x m then some y else some x := by
  rw [bestOf, List.foldl_append, ← bestOf]
  cases h : bestOf cs ds m a with
  | none => rfl
  | some x => exact best_fold x b

/-- The spare that is the first to lead to the least waste v. -/
def fstAt (cs ds : List Int) (p : List Int) (f : Nat → Int) (v : Int) (k : Nat) : Prop :=
  okAt cs ds p k = true ∧ 0 ≤ f k ∧ wsAt cs ds k p.length + f k = v ∧ ∀ i, i < k → ¬ (okAt cs ds p i = true ∧ 0 ≤ f i ∧ wsAt cs ds i p.length + f i = v)
theorem leTo_first {cs ds p : List Int} {f : Nat → Int} : ∀ {k : Nat}, (leTo cs ds p f k < 0 → ∀ i, i < k → okAt cs ds p i = true → f i < 0) ∧
    (0 ≤ leTo cs ds p f k → (∃ j, j < k ∧ fstAt cs ds p f (leTo cs ds p f k) j) ∧ ∀ i, i < k → okAt cs ds p i = true → 0 ≤ f i → leTo cs ds p f k ≤ wsAt cs ds i p.length + f i)
  | 0 => by simp [leTo]
  | k + 1 => by
    obtain ⟨h1, h2⟩ := leTo_first (cs := cs) (ds := ds) (p := p) (f := f) (k := k)
    rw [leTo]
    revert h1 h2
    generalize leTo cs ds p f k = L
    intro h1 h2
    split
    · rename_i h
      simp only [Bool.and_eq_true, Bool.or_eq_true, decide_eq_true_eq] at h
      obtain ⟨ho, hf, hL⟩ := h
      have hw := okAt_ws ho
      refine ⟨fun h => by omega, fun _ => ⟨⟨k, by omega, ho, hf, rfl, fun i hi hh => ?_⟩, fun i hi hoi hfi => ?_⟩⟩
      · rcases hL with hL | hL
        · have := h1 hL i hi hh.1; omega
        · by_cases hL0 : L < 0
          · have := h1 hL0 i hi hh.1; omega
          · have := (h2 (by omega)).2 i hi hh.1 hh.2.1; omega
      · by_cases e : i = k
        · subst e; omega
        · rcases hL with hL | hL
          · have := h1 hL i (by omega) hoi; omega
          · by_cases hL0 : L < 0
            · have := h1 hL0 i (by omega) hoi; omega
            · have := (h2 (by omega)).2 i (by omega) hoi hfi; omega
    · rename_i h
      simp only [Bool.and_eq_true, Bool.or_eq_true, decide_eq_true_eq, not_and, not_or] at h
      refine ⟨fun hL i hi hoi => ?_, fun hL => ?_⟩
      · by_cases e : i = k
        · subst e
          have h3 := h hoi
          by_cases hf : 0 ≤ f i
          · have := h3 hf; omega
          · omega
        · exact h1 hL i (by omega) hoi
      · obtain ⟨⟨j, hj, hf⟩, h3⟩ := h2 hL
        refine ⟨⟨j, by omega, hf⟩, fun i hi hoi hfi => ?_⟩
        by_cases e : i = k
        · subst e
          have := h hoi hfi
          omega
        · exact h3 i (by omega) hoi hfi

/-- The reference's best: from need to need, the first spare that leads to the least waste. -/
def fstK (cs ds : List Int) (p : List Int) (f : Nat → Int) (v : Int) : Nat → Nat
  | 0 => 0
  | n + 1 => if okAt cs ds p (fstK cs ds p f v n) && (decide (0 ≤ f (fstK cs ds p f v n)) && decide (wsAt cs ds (fstK cs ds p f v n) p.length + f (fstK cs ds p f v n) = v)) then fstK cs ds p f v n else fstK cs ds p f v n + 1
theorem fstK_eq {cs ds p : List Int} {f : Nat → Int} {v : Int} {j : Nat} (h : fstAt cs ds p f v j) : ∀ {n : Nat}, fstK cs ds p f v n = min n j
  | 0 => by simp [fstK]
  | n + 1 => by
    rw [fstK, fstK_eq h]
    obtain ⟨h1, h2, h3, h4⟩ := h
    by_cases hn : j ≤ n
    · have e : min n j = j := by omega
      simp only [e, h1, decide_eq_true h2, decide_eq_true h3, Bool.and_self, if_true]
      omega
    · have e : min n j = n := by omega
      have h5 := h4 n (by omega)
      rw [e]
      split
      · rename_i h6
        simp only [Bool.and_eq_true, decide_eq_true_eq] at h6
        exact absurd ⟨h6.1, h6.2.1, h6.2.2⟩ h5
      · omega
def grd (cs ds : List Int) (n : Nat) : Nat → List Int → List Int
  | 0, p => p
  | d + 1, p => grd cs ds n d (p ++ [((fstK cs ds p (fun k => leastI cs ds n d (p ++ [(k : Int)])) (leastI cs ds n (d + 1) p) n : Nat) : Int)])

theorem best_main {cs ds : List Int} {n m : Nat} : ∀ (d : Nat) (p : List Int), p.length + d = m →
    (leastI cs ds n d p < 0 → servs cs ds n d p = []) ∧ (0 ≤ leastI cs ds n d p → bestOf cs ds m (servs cs ds n d p) = some (grd cs ds n d p) ∧ (grd cs ds n d p).length = m ∧ wst cs ds (grd cs ds n d p) m = wst cs ds p p.length + leastI cs ds n d p)
  | 0, p, h => by
    have e : p.length = m := by omega
    subst e
    simp [leastI, servs, bestOf, better, grd]
  | d + 1, p, h => by
    have IH := fun k : Nat => best_main (cs := cs) (ds := ds) (n := n) (m := m) d (p ++ [(k : Int)]) (by simp; omega)
    have key : ∀ k, (leTo cs ds p (fun k => leastI cs ds n d (p ++ [(k : Int)])) k < 0 → servsTo cs ds n d p k = []) ∧
        (∀ j, j < k → fstAt cs ds p (fun k => leastI cs ds n d (p ++ [(k : Int)])) (leTo cs ds p (fun k => leastI cs ds n d (p ++ [(k : Int)])) k) j → bestOf cs ds m (servsTo cs ds n d p k) = some (grd cs ds n d (p ++ [(j : Int)]))) := by
      intro k
      induction k with
      | zero => exact ⟨fun _ => rfl, fun j hj => absurd hj (by omega)⟩
      | succ k ih =>
        have F := leTo_first (cs := cs) (ds := ds) (p := p) (f := fun k => leastI cs ds n d (p ++ [(k : Int)])) (k := k)
        have hw : ∀ (i : Nat) , 0 ≤ leastI cs ds n d (p ++ [(i : Int)]) → wst cs ds (grd cs ds n d (p ++ [(i : Int)])) m = wst cs ds p p.length + (wsAt cs ds i p.length + leastI cs ds n d (p ++ [(i : Int)])) := by
          intro i hi
          rw [((IH i).2 hi).2.2, wst_push]; omega
        obtain ⟨ih1, ih2⟩ := ih
        rw [leTo]
        revert ih1 ih2 F
        generalize leTo cs ds p (fun k => leastI cs ds n d (p ++ [(k : Int)])) k = L
        intro F ih1 ih2
        cases ho : okAt cs ds p k with
        | false =>
          rw [servsTo_no ho]
          simp only [Bool.false_and, Bool.false_eq_true, if_false]
          refine ⟨ih1, fun j hj hf => ?_⟩
          by_cases e : j = k
          · subst e
            have := hf.1
            rw [ho] at this; cases this
          · exact ih2 j (by omega) hf
        | true =>
          rw [servsTo_yes ho]
          have hwk := okAt_ws ho
          by_cases hf : 0 ≤ leastI cs ds n d (p ++ [(k : Int)])
          · by_cases hL : L < 0
            · simp only [decide_eq_true hf, decide_eq_true hL, Bool.true_and, Bool.true_or, if_true]
              rw [ih1 hL, List.nil_append]
              refine ⟨fun h => by omega, fun j hj hfj => ?_⟩
              by_cases e : j = k
              · subst e; exact ((IH j).2 hf).1
              · have h1 := F.1 hL j (by omega) hfj.1
                have h2 := hfj.2.1
                simp only at h1 h2
                omega
            · obtain ⟨⟨j0, hj0, hf0⟩, hmin⟩ := F.2 (by omega)
              have hb := ih2 j0 hj0 hf0
              have hw0 := hw j0 hf0.2.1
              have hv0 := hf0.2.2.1
              simp only at hv0
              by_cases hlt : wsAt cs ds k p.length + leastI cs ds n d (p ++ [(k : Int)]) < L
              · simp only [decide_eq_true hf, decide_eq_true hlt, Bool.true_and, Bool.or_true, if_true]
                refine ⟨fun h => by omega, fun j hj hfj => ?_⟩
                have ej : j = k := by
                  by_cases e : j = k
                  · exact e
                  · have h1 := hmin j (by omega) hfj.1 hfj.2.1
                    have h2 := hfj.2.2.1
                    simp only at h1 h2
                    omega
                subst ej
                rw [bestOf_app, hb, ((IH j).2 hf).1]
                have h3 : wst cs ds (grd cs ds n d (p ++ [(j : Int)])) m < wst cs ds (grd cs ds n d (p ++ [(j0 : Int)])) m := by rw [hw j hf, hw0]; omega
                simp only [if_pos h3]
              · simp only [decide_eq_true hf, decide_eq_false hlt, decide_eq_false hL, Bool.true_and, Bool.or_false, Bool.false_eq_true, if_false]
                refine ⟨fun h => absurd h hL, fun j hj hfj => ?_⟩
                have ej : j = j0 := by
                  rcases Nat.lt_trichotomy j j0 with h | h | h
                  · exact absurd ⟨hfj.1, hfj.2.1, hfj.2.2.1⟩ (hf0.2.2.2 j h)
                  · exact h
                  · exact absurd ⟨hf0.1, hf0.2.1, hf0.2.2.1⟩ (hfj.2.2.2 j0 h)
                subst ej
                rw [bestOf_app, hb, ((IH k).2 hf).1]
                have h3 : ¬ wst cs ds (grd cs ds n d (p ++ [(k : Int)])) m < wst cs ds (grd cs ds n d (p ++ [(j : Int)])) m := by rw [hw k hf, hw0]; omega
                simp only [if_neg h3]
          · simp only [decide_eq_false hf, Bool.false_and, Bool.and_false, Bool.false_eq_true, if_false]
            rw [(IH k).1 (by omega), List.append_nil]
            refine ⟨ih1, fun j hj hfj => ?_⟩
            by_cases e : j = k
            · subst e; exact absurd hfj.2.1 hf
            · exact ih2 j (by omega) hfj
    obtain ⟨k1, k2⟩ := key n
    refine ⟨k1, fun hL => ?_⟩
    have F := leTo_first (cs := cs) (ds := ds) (p := p) (f := fun k => leastI cs ds n d (p ++ [(k : Int)])) (k := n)
    obtain ⟨⟨j, hj, hf⟩, _⟩ := F.2 hL
    have e : fstK cs ds p (fun k => leastI cs ds n d (p ++ [(k : Int)])) (leastI cs ds n (d + 1) p) n = j := by
      rw [leastI, fstK_eq hf]; omega
    rw [grd, e]
    refine ⟨k2 j hj hf, ((IH j).2 hf.2.1).2.1, ?_⟩
    rw [((IH j).2 hf.2.1).2.2, wst_push]
    have := hf.2.2.1
    simp only at this
    rw [leastI]
    omega

end Go.Proofs.YthbkimojbbkeiaaDoor
