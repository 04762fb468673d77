/- Plain law: servings are counted by their first need. -/
import Derived.Test.YthbkimojbbkeiaaSvLaw
namespace Go.Proofs.Ythbkimojbbkeiaa

def sumN (g : Nat → Nat) : Nat → Nat
  | 0 => 0
  | k + 1 => sumN g k + g k
theorem sumN_congr {f g : Nat → Nat} : ∀ {n : Nat}, (∀ k, k < n → f k = g k) → sumN f n = sumN g n
  | 0, _ => rfl
  | n + 1, h => by rw [sumN, sumN, sumN_congr (fun k hk => h k (by omega)), h n (by omega)]
theorem sumN_front (g : Nat → Nat) : ∀ n, sumN g (n + 1) = g 0 + sumN (fun k => g (k + 1)) n
  | 0 => by simp [sumN]
  | n + 1 => by rw [sumN, sumN_front g n, sumN]; omega

/-- The sum over all ways to take one out of a list. -/
def pk {α : Type} (f : List α → α → Nat) : List α → List α → Nat
  | _, [] => 0
  | A, x :: B => f (A ++ B) x + pk f (A ++ [x]) B
/-- In how many ways needs are served out of a list. -/
def cntS : List (Int × Int) → List (Int × Int) → Nat
  | [], _ => 1
  | q :: qs, L => pk (fun rest x => if srB x.1 x.2 q.1 q.2 then cntS qs rest else 0) [] L

theorem pk_map {α : Type} (f : List α → α → Nat) (v : Nat → α) : ∀ (I A : List Nat), (A ++ I).Nodup → pk f (A.map v) (I.map v) = (I.map fun k => f (((A ++ I).filter fun i => i != k).map v) (v k)).sum
  | [], A, _ => rfl
  | k :: I, A, h => by
    have e : (A ++ k :: I).filter (fun i => i != k) = A ++ I := by
      have h2 := List.nodup_append.1 h
      have h3 := List.nodup_cons.1 h2.2.1
      rw [List.filter_append, List.filter_cons]
      simp only [bne_self_eq_false, Bool.false_eq_true, if_false]
      rw [List.filter_eq_self.2, List.filter_eq_self.2]
      · intro a ha
        simp only [bne_iff_ne]
        rintro rfl
        exact h3.1 ha
      · intro a ha
        simp only [bne_iff_ne]
        rintro rfl
        exact h2.2.2 a ha a (List.mem_cons_self ..) rfl
    have h' : (A ++ [k] ++ I).Nodup := by rw [List.append_assoc]; exact h
    have ih := pk_map f v I (A ++ [k]) h'
    rw [List.map_append, List.map_cons, List.map_nil, List.append_assoc] at ih
    rw [List.map_cons, pk, ih, List.map_cons, List.sum_cons, e, List.map_append]
    rfl
theorem sum_filter (c : Nat → Bool) (G : Nat → Nat) : ∀ n, (((List.range n).filter c).map G).sum = sumN (fun k => if c k then G k else 0) n
  | 0 => rfl
  | n + 1 => by
    rw [List.range_succ, List.filter_append, List.map_append, List.sum_append, sum_filter c G n, sumN]
    cases h : c n with
    | false => simp [h]
    | true => simp [h]

/-- What is left when p is taken. -/
def rem (cs : List Int) (n : Nat) (p : List Int) : List (Int × Int) := ((List.range n).filter fun k : Nat => !memB p (k : Int)).map fun k => (smi cs k, ski cs k)
theorem rem_nil (cs : List Int) (n : Nat) : rem cs n [] = prs cs n := by
  unfold rem prs
  rw [List.filter_eq_self.2]
  intro a _
  simp [memB]
theorem manyTo_sum {cs ds : List Int} {n d : Nat} {p : List Int} : ∀ {k : Nat}, manyTo cs ds n d p k = sumN (fun k => if okAt cs ds p k then manyI cs ds n d (p ++ [(k : Int)]) else 0) k
  | 0 => rfl
  | k + 1 => by
    cases h : okAt cs ds p k with
    | false => rw [manyTo_no h, manyTo_sum, sumN]; simp [h]
    | true => rw [manyTo_yes h, manyTo_sum, sumN]; simp [h]
theorem many_cnt {cs ds : List Int} {n m : Nat} : ∀ (d : Nat) (p : List Int), p.length + d = m → manyI cs ds n d p = cntS ((prs ds m).drop p.length) (rem cs n p)
  | 0, p, h => by
    have : (prs ds m).drop p.length = [] := List.drop_eq_nil_of_le (by rw [prs_len]; omega)
    rw [this]
    rfl
  | d + 1, p, h => by
    have e : (prs ds m).drop p.length = (smi ds p.length, ski ds p.length) :: (prs ds m).drop (p.length + 1) := by
      have hl : p.length < (prs ds m).length := by rw [prs_len]; omega
      rw [List.drop_eq_getElem_cons hl]
      congr 1
      simp [prs]
    rw [e, cntS]
    have hnd : (List.range n).Nodup := List.nodup_range
    have hnd2 : ([] ++ (List.range n).filter fun k : Nat => !memB p (k : Int)).Nodup := by rw [List.nil_append]; exact hnd.filter _
    have := pk_map (fun rest x => if srB x.1 x.2 (smi ds p.length) (ski ds p.length) then cntS ((prs ds m).drop (p.length + 1)) rest else 0) (fun k => (smi cs k, ski cs k)) _ [] hnd2
    rw [List.map_nil, List.nil_append] at this
    rw [rem, this, sum_filter]
    show manyTo cs ds n d p n = _
    rw [manyTo_sum]
    refine sumN_congr fun k hk => ?_
    have hr : (((List.range n).filter fun k : Nat => !memB p (k : Int)).filter fun i => i != k).map (fun k => (smi cs k, ski cs k)) = rem cs n (p ++ [(k : Int)]) := by
      unfold rem
      rw [List.filter_filter]
      congr 1
      refine List.filter_congr fun i _ => ?_
      rw [Bool.eq_iff_iff]
      simp only [memB, Bool.and_eq_true, bne_iff_ne, Bool.not_eq_true', decide_eq_false_iff_not, List.mem_append, List.mem_singleton, not_or]
      constructor
      · rintro ⟨h1, h2⟩; exact ⟨h2, by omega⟩
      · rintro ⟨h1, h2⟩; exact ⟨by omega, h1⟩
    rw [hr]
    unfold okAt
    cases h1 : (!memB p (k : Int)) with
    | false => simp
    | true =>
      cases h2 : srB (smi cs k) (ski cs k) (smi ds p.length) (ski ds p.length) with
      | false => simp
      | true =>
        simp only [Bool.and_self, if_true]
        rw [many_cnt (m := m) d (p ++ [(k : Int)]) (by simp; omega)]
        simp

theorem pk_sum {α : Type} (f : List α → α → Nat) (x0 : α) : ∀ (B A : List α), pk f A B = sumN (fun k => f (A ++ (B.take k ++ B.drop (k + 1))) (B.getD k x0)) B.length
  | [], A => rfl
  | x :: B, A => by
    rw [pk, pk_sum f x0 B (A ++ [x]), List.length_cons, sumN_front]
    simp

/-- A flat list without spare k. -/
def del (cs : List Int) (k : Nat) : List Int := cs.take (k * 2) ++ cs.drop ((k + 1) * 2)
theorem del_len {cs : List Int} {n k : Nat} (h : cs.length = n * 2) (hk : k < n) : (del cs k).length = (n - 1) * 2 := by
  simp [del, h]; omega
theorem del_at {cs : List Int} {n k i : Nat} (h : cs.length = n * 2) (hk : k < n) : smi (del cs k) i = (if i < k then smi cs i else smi cs (i + 1)) ∧ ski (del cs k) i = (if i < k then ski cs i else ski cs (i + 1)) := by
  have hl : (cs.take (k * 2)).length = k * 2 := by simp [h]; omega
  have key : ∀ j, gi (del cs k) j = if j < k * 2 then gi cs j else gi cs (j + 2) := by
    intro j
    unfold gi del
    by_cases hj : j < k * 2
    · rw [if_pos hj, List.getElem?_append_left (by omega), List.getElem?_take_of_lt hj]
    · rw [if_neg hj, List.getElem?_append_right (by omega), hl, List.getElem?_drop]
      congr 2; omega
  unfold smi ski
  rw [key, key]
  by_cases hi : i < k
  · rw [if_pos hi, if_pos (by omega), if_pos (by omega), if_pos hi]
    exact ⟨rfl, rfl⟩
  · rw [if_neg hi, if_neg (by omega), if_neg (by omega), if_neg hi, show i * 2 + 2 = (i + 1) * 2 by omega, show i * 2 + 1 + 2 = (i + 1) * 2 + 1 by omega]
    exact ⟨rfl, rfl⟩
theorem prs_del {cs : List Int} {n k : Nat} (h : cs.length = n * 2) (hk : k < n) : prs (del cs k) (n - 1) = (prs cs n).take k ++ (prs cs n).drop (k + 1) := by
  apply List.ext_getElem?
  intro i
  have hl : ((prs cs n).take k).length = k := by rw [List.length_take, prs_len]; omega
  by_cases hi : i < n - 1
  · rw [prs_get hi]
    obtain ⟨e1, e2⟩ := del_at (i := i) h hk
    rw [e1, e2]
    by_cases hik : i < k
    · rw [if_pos hik, if_pos hik, List.getElem?_append_left (by omega), List.getElem?_take_of_lt hik, prs_get (by omega)]
    · rw [if_neg hik, if_neg hik, List.getElem?_append_right (by omega), hl, List.getElem?_drop, show k + 1 + (i - k) = i + 1 by omega, prs_get (by omega)]
  · rw [List.getElem?_eq_none (by rw [prs_len]; omega), List.getElem?_eq_none]
    rw [List.length_append, hl, List.length_drop, prs_len]; omega
theorem prs_drop {ds : List Int} {m : Nat} : prs (ds.drop 2) m = (prs ds (m + 1)).drop 1 := by
  apply List.ext_getElem?
  intro i
  rw [List.getElem?_drop]
  have e : smi (ds.drop 2) i = smi ds (1 + i) ∧ ski (ds.drop 2) i = ski ds (1 + i) := by
    unfold smi ski gi
    rw [List.getElem?_drop, List.getElem?_drop, show 2 + i * 2 = (1 + i) * 2 by omega, show 2 + (i * 2 + 1) = (1 + i) * 2 + 1 by omega]
    exact ⟨rfl, rfl⟩
  by_cases hi : i < m
  · rw [prs_get hi, prs_get (by omega), e.1, e.2]
  · rw [List.getElem?_eq_none (by rw [prs_len]; omega), List.getElem?_eq_none (by rw [prs_len]; omega)]
theorem many_first {cs ds : List Int} {n m : Nat} (hc : cs.length = n * 2) : manyI cs ds n (m + 1) [] = sumN (fun k => if srB (smi cs k) (ski cs k) (smi ds 0) (ski ds 0) then manyI (del cs k) (ds.drop 2) (n - 1) m [] else 0) n := by
  rw [many_cnt (m := m + 1) (m + 1) [] (by simp), rem_nil]
  have e : (prs ds (m + 1)).drop ([] : List Int).length = (smi ds 0, ski ds 0) :: (prs ds (m + 1)).drop 1 := by
    have hl : 0 < (prs ds (m + 1)).length := by rw [prs_len]; omega
    rw [List.length_nil, List.drop_eq_getElem_cons hl]
    congr 1
    simp [prs]
  rw [e, cntS, pk_sum _ (0, 0), prs_len]
  refine sumN_congr fun k hk => ?_
  have hg : (prs cs n).getD k (0, 0) = (smi cs k, ski cs k) := by rw [List.getD_eq_getElem?_getD, prs_get hk]; rfl
  rw [hg, List.nil_append, many_cnt (m := m) m [] (by simp), rem_nil, prs_del hc hk, ← prs_drop]
  rfl

end Go.Proofs.Ythbkimojbbkeiaa
