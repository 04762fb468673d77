/- Plain laws on servings: which lists are servings; fewer needs, more spares; the best serving; their count by the first need. -/
import Derived.Test.YthbkimojbbkeiaaSortPlain
namespace Go.Proofs.Ythbkimojbbkeiaa

/-- At place x stands a spare that is not taken and serves the need. -/
def vAt (cs ds : List Int) (n : Nat) (s : List Int) (x : Nat) : Prop := ∃ k : Nat, k < n ∧ gi s x = (k : Int) ∧ okAt cs ds (s.take x) k = true
theorem take_push {s : List Int} {x : Nat} (h : x < s.length) : s.take (x + 1) = s.take x ++ [gi s x] := by
  rw [List.take_succ_eq_append_getElem h, gi_eq h]
theorem mem_servs {cs ds : List Int} {n : Nat} : ∀ {d : Nat} {p s : List Int}, s ∈ servs cs ds n d p ↔ s.length = p.length + d ∧ s.take p.length = p ∧ ∀ x, p.length ≤ x → x < s.length → vAt cs ds n s x
  | 0, p, s => by
    simp only [servs, List.mem_singleton]
    constructor
    · rintro rfl
      exact ⟨rfl, by simp, fun x h1 h2 => by omega⟩
    · rintro ⟨h1, h2, _⟩
      rw [← h2, List.take_of_length_le (by omega)]
  | d + 1, p, s => by
    rw [servs_succ, servsTo, mem_cat]
    constructor
    · rintro ⟨k, hk, h⟩
      split at h
      · rename_i ho
        obtain ⟨h1, h2, h3⟩ := mem_servs.1 h
        simp only [List.length_append, List.length_singleton] at h1 h2 h3
        have hlt : p.length < s.length := by omega
        rw [take_push hlt] at h2
        have h4 := List.append_inj' h2 rfl
        refine ⟨by omega, h4.1, fun x hx hxs => ?_⟩
        by_cases e : x = p.length
        · subst e
          have h5 : gi s p.length = (k : Int) := by have := h4.2; simpa using this
          exact ⟨k, hk, h5, by rw [h4.1]; exact ho⟩
        · exact h3 x (by omega) hxs
      · simp at h
    · rintro ⟨h1, h2, h3⟩
      have hlt : p.length < s.length := by omega
      obtain ⟨k, hk, hg, ho⟩ := h3 p.length (Nat.le_refl _) hlt
      rw [h2] at ho
      refine ⟨k, hk, ?_⟩
      rw [if_pos ho]
      refine mem_servs.2 ⟨by simp; omega, ?_, fun x hx hxs => h3 x (by simp at hx; omega) hxs⟩
      rw [List.length_append, List.length_singleton, take_push hlt, h2, hg]
theorem mem_all {cs ds : List Int} {n m : Nat} {s : List Int} : s ∈ servs cs ds n m [] ↔ s.length = m ∧ ∀ x, x < m → vAt cs ds n s x := by
  rw [mem_servs]
  simp only [List.length_nil, Nat.zero_add, List.take_zero, true_and]
  constructor
  · rintro ⟨h1, h2⟩; exact ⟨h1, fun x hx => h2 x (by omega) (by omega)⟩
  · rintro ⟨h1, h2⟩; exact ⟨h1, fun x _ hx => h2 x (by omega)⟩

theorem least_some {cs ds : List Int} {n m : Nat} : 0 ≤ leastI cs ds n m [] ↔ ∃ s, s ∈ servs cs ds n m [] := by
  obtain ⟨h1, h2⟩ := best_main (cs := cs) (ds := ds) (n := n) (m := m) m [] (by simp)
  constructor
  · intro h
    have h3 := (h2 h).1
    cases e : servs cs ds n m [] with
    | nil => rw [e] at h3; simp [bestOf] at h3
    | cons s l => exact ⟨s, List.mem_cons_self ..⟩
  · rintro ⟨s, hs⟩
    by_cases h : 0 ≤ leastI cs ds n m []
    · exact h
    · rw [h1 (by omega)] at hs; simp at hs
theorem many_some {cs ds : List Int} {n m : Nat} : 0 < manyI cs ds n m [] ↔ ∃ s, s ∈ servs cs ds n m [] := by
  unfold manyI
  exact List.length_pos_iff_exists_mem

/-- What a place of a serving says. -/
theorem vAt_iff {cs ds : List Int} {n : Nat} {s : List Int} {x : Nat} (hx : x < s.length) : vAt cs ds n s x ↔ (0 ≤ gi s x ∧ gi s x < n) ∧ (∀ y, y < x → gi s y ≠ gi s x) ∧ ski cs (gi s x).toNat = ski ds x ∧ smi ds x ≤ smi cs (gi s x).toNat := by
  unfold vAt okAt
  have hm : ∀ z : Int, memB (s.take x) z = false ↔ ∀ y, y < x → gi s y ≠ z := by
    intro z
    simp only [memB, decide_eq_false_iff_not]
    constructor
    · intro h y hy e
      apply h
      rw [List.mem_take_iff_getElem]
      exact ⟨y, by omega, by rw [← e, gi_eq (show y < s.length by omega)]⟩
    · intro h hmem
      rw [List.mem_take_iff_getElem] at hmem
      obtain ⟨y, hy, e⟩ := hmem
      exact h y (by omega) (by rw [gi_eq (by omega)]; exact e)
  constructor
  · rintro ⟨k, hk, hg, ho⟩
    simp only [Bool.and_eq_true, Bool.not_eq_true', srB_true] at ho
    rw [hg]
    have hl : (s.take x).length = x := by simp; omega
    rw [hl] at ho
    refine ⟨by omega, (hm _).1 ho.1, ?_⟩
    simpa using ho.2
  · rintro ⟨h1, h2, h3⟩
    refine ⟨(gi s x).toNat, by omega, by omega, ?_⟩
    have e : ((gi s x).toNat : Int) = gi s x := by omega
    have hl : (s.take x).length = x := by simp; omega
    rw [e, hl]
    simp only [Bool.and_eq_true, Bool.not_eq_true', srB_true]
    exact ⟨(hm _).2 h2, h3⟩

theorem fold_mem {cs ds : List Int} {m : Nat} : ∀ (l : List (List Int)) (b : Option (List Int)) (x : List Int), l.foldl (better cs ds m) b = some x → x ∈ l ∨ b = some x
  | [], b, x, h => .inr h
  | s :: l, b, x, h => by
    rcases fold_mem l _ x h with h1 | h1
    · exact .inl (List.mem_cons_of_mem _ h1)
    · cases b with
      | none => simp [better] at h1; subst h1; exact .inl (List.mem_cons_self ..)
      | some y =>
        simp only [better] at h1
        split at h1
        · cases h1; exact .inl (List.mem_cons_self ..)
        · exact .inr h1
theorem bestOf_mem {cs ds : List Int} {m : Nat} {l : List (List Int)} {x : List Int} (h : bestOf cs ds m l = some x) : x ∈ l := by
  rcases fold_mem l none x h with h1 | h1
  · exact h1
  · cases h1

/-- No serving of those that begin with p wastes less. -/
theorem least_le {cs ds : List Int} {n m : Nat} : ∀ (d : Nat) (p s : List Int), p.length + d = m → s ∈ servs cs ds n d p → 0 ≤ leastI cs ds n d p ∧ wst cs ds p p.length + leastI cs ds n d p ≤ wst cs ds s m
  | 0, p, s, h, hs => by
    simp only [servs, List.mem_singleton] at hs
    subst hs
    have e : s.length = m := by omega
    subst e
    simp [leastI]
  | d + 1, p, s, h, hs => by
    rw [servs_succ, servsTo, mem_cat] at hs
    obtain ⟨k, hk, hs⟩ := hs
    split at hs
    · rename_i ho
      obtain ⟨h1, h2⟩ := least_le (m := m) d (p ++ [(k : Int)]) s (by simp; omega) hs
      rw [wst_push] at h2
      have F := leTo_first (cs := cs) (ds := ds) (p := p) (f := fun k => leastI cs ds n d (p ++ [(k : Int)])) (k := n)
      by_cases hL : 0 ≤ leTo cs ds p (fun k => leastI cs ds n d (p ++ [(k : Int)])) n
      · have := (F.2 hL).2 k hk ho h1
        rw [leastI]
        exact ⟨hL, by omega⟩
      · have := F.1 (by omega) k hk ho
        omega
    · simp at hs
theorem servs_pre {cs ds : List Int} {n d : Nat} {p s : List Int} (h : s ∈ servs cs ds n d p) {i : Nat} (hi : i < p.length) : gi s i = gi p i := by
  obtain ⟨h1, h2, _⟩ := mem_servs.1 h
  rw [← h2]
  simp [gi, hi]
/-- Among those that waste least, the best comes first. -/
theorem grd_first {cs ds : List Int} {n m : Nat} : ∀ (d : Nat) (p s : List Int), p.length + d = m → s ∈ servs cs ds n d p → wst cs ds s m = wst cs ds (grd cs ds n d p) m →
    s = grd cs ds n d p ∨ ∃ i, i < m ∧ (∀ j, j < i → gi s j = gi (grd cs ds n d p) j) ∧ gi (grd cs ds n d p) i < gi s i
  | 0, p, s, h, hs, _ => by
    simp only [servs, List.mem_singleton] at hs
    exact .inl hs
  | d + 1, p, s, h, hs, hw => by
    have hs0 := hs
    have hL := (least_le (d + 1) p s h hs).1
    have B := (best_main (cs := cs) (ds := ds) (n := n) (m := m) (d + 1) p h).2 hL
    have F := leTo_first (cs := cs) (ds := ds) (p := p) (f := fun k => leastI cs ds n d (p ++ [(k : Int)])) (k := n)
    have hL' := hL
    rw [leastI] at hL'
    obtain ⟨⟨j, hj, hf⟩, hmin⟩ := F.2 hL'
    have e : fstK cs ds p (fun k => leastI cs ds n d (p ++ [(k : Int)])) (leastI cs ds n (d + 1) p) n = j := by
      rw [leastI, fstK_eq hf]; omega
    rw [B.2.2] at hw
    have hgr : grd cs ds n (d + 1) p = grd cs ds n d (p ++ [(j : Int)]) := by rw [grd, e]
    rw [hgr]
    rw [servs_succ, servsTo, mem_cat] at hs
    obtain ⟨k, hk, hs⟩ := hs
    split at hs
    · rename_i ho
      have Bj := (best_main (cs := cs) (ds := ds) (n := n) (m := m) d (p ++ [(j : Int)]) (by simp; omega)).2 hf.2.1
      by_cases ek : k = j
      · subst ek
        refine grd_first d _ s (by simp; omega) hs ?_
        rw [hw, ← hgr, B.2.2]
      · obtain ⟨h1, h2⟩ := least_le (m := m) d (p ++ [(k : Int)]) s (by simp; omega) hs
        rw [wst_push] at h2
        have h3 := hmin k hk ho h1
        have h4 : wsAt cs ds k p.length + leastI cs ds n d (p ++ [(k : Int)]) = leTo cs ds p (fun k => leastI cs ds n d (p ++ [(k : Int)])) n := by
          rw [leastI] at hw
          omega
        have hjk : j < k := by
          rcases Nat.lt_trichotomy j k with h5 | h5 | h5
          · exact h5
          · exact absurd h5.symm ek
          · exact absurd ⟨ho, h1, h4⟩ (hf.2.2.2 k h5)
        have hgm : grd cs ds n d (p ++ [(j : Int)]) ∈ servs cs ds n d (p ++ [(j : Int)]) := bestOf_mem Bj.1
        refine .inr ⟨p.length, by omega, fun i hi => ?_, ?_⟩
        · rw [servs_pre hs0 hi, servs_pre hgm (by simp; omega), gi_app_left hi]
        · rw [servs_pre hs (by simp), servs_pre hgm (by simp), gi_app_last, gi_app_last]
          omega
    · simp at hs

end Go.Proofs.Ythbkimojbbkeiaa
