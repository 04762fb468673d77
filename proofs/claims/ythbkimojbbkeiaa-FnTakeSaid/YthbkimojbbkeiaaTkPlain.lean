/- Plain: cells of a flat list written one by one; what is left of a spare; nothing of the program. -/
import Derived.Test.YthbkimojbbkeiaaSoPlain
import Derived.Test.YthbkimojbbkeiaaSvCnt
namespace Go.Proofs.Ythbkimojbbkeiaa

/-- zs laid over ys from place o on. -/
def ovl (ys : List Int) : Nat → List Int → List Int
  | _, [] => ys
  | o, z :: zs => ovl (ys.set o z) (o + 1) zs
theorem ovl_len : ∀ (zs ys : List Int) (o : Nat), (ovl ys o zs).length = ys.length
  | [], _, _ => rfl
  | z :: zs, ys, o => by rw [ovl, ovl_len zs]; simp
theorem ovl_gi : ∀ (zs ys : List Int) (o i : Nat), gi (ovl ys o zs) i = if o ≤ i ∧ i < o + zs.length ∧ i < ys.length then gi zs (i - o) else gi ys i
  | [], ys, o, i => by rw [ovl, if_neg (by simp; omega)]
  | z :: zs, ys, o, i => by
    rw [ovl, ovl_gi zs]
    simp only [List.length_set, List.length_cons]
    by_cases h1 : o + 1 ≤ i ∧ i < o + 1 + zs.length ∧ i < ys.length
    · rw [if_pos h1, if_pos (by omega), show i - o = (i - (o + 1)) + 1 by omega]
      unfold gi
      rw [List.getElem?_cons_succ]
    · rw [if_neg h1, gi_set]
      by_cases h2 : o = i ∧ o < ys.length
      · obtain ⟨rfl, h3⟩ := h2
        rw [if_pos ⟨rfl, h3⟩, if_pos (by omega), Nat.sub_self]
        rfl
      · rw [if_neg h2, if_neg (by omega)]
theorem take_ovl : ∀ (zs ys : List Int) (o m : Nat), m ≤ o → (ovl ys o zs).take m = ys.take m
  | [], _, _, _, _ => rfl
  | z :: zs, ys, o, m, h => by rw [ovl, take_ovl zs _ (o + 1) m (by omega), List.take_set_of_le h]
theorem del_ovl {cs : List Int} {n K : Nat} (hl : cs.length = n * 2) (hk : K < n) : (ovl cs (K * 2) (cs.drop ((K + 1) * 2))).take ((n - 1) * 2) = del cs K := by
  apply ext_gi
  · simp [ovl_len, del, hl]; omega
  · intro i hi
    rw [List.length_take, ovl_len] at hi
    have e1 : gi ((ovl cs (K * 2) (cs.drop ((K + 1) * 2))).take ((n - 1) * 2)) i = gi (ovl cs (K * 2) (cs.drop ((K + 1) * 2))) i := by
      unfold gi; rw [List.getElem?_take, if_pos (by omega)]
    rw [e1, ovl_gi]
    unfold del gi
    by_cases h : i < K * 2
    · rw [if_neg (by omega), List.getElem?_append_left (by simp; omega), List.getElem?_take, if_pos h]
    · rw [if_pos ⟨by omega, by simp; omega, by omega⟩, List.getElem?_append_right (by simp; omega), List.getElem?_drop, List.getElem?_drop, List.length_take, show min (K * 2) cs.length = K * 2 by omega]
theorem take_set_drop {cs : List Int} {n K : Nat} {u : Int} (hl : cs.length = n * 2) (hk : K < n) : cs.set (K * 2) u = cs.take (K * 2) ++ [u, ski cs K] ++ cs.drop ((K + 1) * 2) := by
  apply ext_gi
  · simp; omega
  · intro i hi
    rw [List.length_set] at hi
    rw [gi_set]
    unfold gi
    by_cases h1 : i < K * 2
    · rw [if_neg (by omega), List.append_assoc, List.getElem?_append_left (by simp; omega), List.getElem?_take, if_pos h1]
    · rw [List.append_assoc, List.getElem?_append_right (by simp; omega), List.length_take, show min (K * 2) cs.length = K * 2 by omega]
      by_cases h2 : i = K * 2
      · subst h2
        rw [if_pos (by omega)]; simp
      · rw [if_neg (by omega)]
        by_cases h3 : i = K * 2 + 1
        · subst h3
          rw [show K * 2 + 1 - K * 2 = 1 by omega]
          simp [ski, gi]
        · rw [show i - K * 2 = (i - K * 2 - 2) + 1 + 1 by omega]
          simp only [List.cons_append, List.nil_append, List.getElem?_cons_succ]
          rw [List.getElem?_drop, show (K + 1) * 2 + (i - K * 2 - 2) = i by omega]
theorem del_set {cs : List Int} {K : Nat} {u : Int} : del (cs.set (K * 2) u) K = del cs K := by
  unfold del
  rw [List.take_set_of_le (by omega), List.drop_set_of_lt (by omega)]

end Go.Proofs.Ythbkimojbbkeiaa
