/- Plain facts for the laws on stowages: pairs agree; without a coil; a tank moved; turned round; the greatest tank. -/
import Derived.Test.YtldjnfcdmhcjdaaStowPlain
import Derived.Test.YtldjnfcdmhcjdaaCntPlain
import Derived.Test.YtldjnfcdmhcjdaaInvPlain
import Derived.Test.YtldjnfcdmhcjdaaDropPlain
namespace Go.Proofs.Ytldjnfcdmhcjdaa

theorem stow_pair {xs ts : List Int} (h : stowB xs ts = true) {i k : Nat} (hi : i < ts.length) (hk : k < i) (he : gi ts i = gi ts k) : agreeB xs i k = true := by
  obtain ⟨hx, hl, hs⟩ := stowB_true.1 h
  have h1 := (hs i hi).2 k hk he
  have e1 : inB (i : Int) 0 ((xs.length : Int) - 1) = true := inB_true.2 ⟨by omega, by omega⟩
  have e2 : inB (k : Int) 0 ((xs.length : Int) - 1) = true := inB_true.2 ⟨by omega, by omega⟩
  have e3 : ((i : Int) != (k : Int)) = true := by rw [bne_iff_ne]; omega
  have e4 : decide (i < k) = false := by simp; omega
  have e5 : decide (gi xs k < gi xs i) = false := by simp; omega
  simp only [agreeB, hx, e1, e2, e3, agrB, Int.toNat_natCast, e4, e5]
  rfl

/-- Tanks without a coil. -/
def dropT (ts : List Int) (k : Nat) : List Int := ts.take k ++ ts.drop (k + 1)
theorem dropT_len {ts : List Int} {k : Nat} (hk : k < ts.length) : (dropT ts k).length = ts.length - 1 := by simp [dropT]; omega
theorem dropT_gi {ts : List Int} {k a : Nat} (hk : k < ts.length) : gi (dropT ts k) a = gi ts (skp k a) := by
  simp only [dropT, gi, skp]
  by_cases h : a < k
  · rw [List.getElem?_append_left (by simp; omega), if_pos h]
    simp [h]
  · rw [List.getElem?_append_right (by simp; omega), if_neg h]
    simp only [List.length_take, List.getElem?_drop]
    congr 2
    omega

theorem stow_drop {xs ts : List Int} (h : stowB xs ts = true) {k : Nat} (hk : k < ts.length) : stowB (dropTo xs k xs.length) (dropT ts k) = true := by
  obtain ⟨hx, hl, hs⟩ := stowB_true.1 h
  have hkx : k < xs.length := by omega
  refine stowB_true.2 ⟨drop_ord hx hkx, by rw [dropT_len hk, drop_len hkx]; omega, ?_⟩
  rw [dropT_len hk]
  intro i hi
  have hsi := skp_lt (show i < xs.length - 1 by omega) hkx
  rw [dropT_gi hk]
  refine ⟨(hs (skp k i) (by omega)).1, fun j hj he => ?_⟩
  rw [dropT_gi hk] at he
  rw [drop_gi hkx (by omega), drop_gi hkx (by omega)]
  have hsj := skp_lt (show j < xs.length - 1 by omega) hkx
  exact (dropV_lt (ordB_ne hx hsi hkx skp_ne) (ordB_ne hx hsj hkx skp_ne)).2 ((hs (skp k i) (by omega)).2 (skp k j) (skp_mono.2 hj) he)

/-- All coils of a tank in the tank 4. -/
def mv (ts : List Int) (k x : Nat) : Int := if gi ts x = gi ts k then 4 else gi ts x
def mvTo (ts : List Int) (k m : Nat) : List Int := (List.range m).map (mv ts k)
theorem mvTo_len (ts : List Int) (k m : Nat) : (mvTo ts k m).length = m := by simp [mvTo]
theorem mvTo_gi {ts : List Int} {k m j : Nat} (hj : j < m) : gi (mvTo ts k m) j = mv ts k j := by simp [gi, mvTo, hj]
theorem mvTo_succ (ts : List Int) (k m : Nat) : mvTo ts k (m + 1) = mvTo ts k m ++ [mv ts k m] := by simp [mvTo, List.range_succ]
theorem mvTo_yes {ts : List Int} {k m : Nat} (h : gi ts m = gi ts k) : mvTo ts k (m + 1) = mvTo ts k m ++ [4] := by rw [mvTo_succ, mv, if_pos h]
theorem mvTo_no {ts : List Int} {k m : Nat} (h : ¬ gi ts m = gi ts k) : mvTo ts k (m + 1) = mvTo ts k m ++ [gi ts m] := by rw [mvTo_succ, mv, if_neg h]
/-- Is the tank 4 used by one of the first m coils? -/
def used4 (ts : List Int) : Nat → Bool
  | 0 => false
  | m + 1 => used4 ts m || (gi ts m == 4)
theorem used4_no {ts : List Int} : ∀ m, used4 ts m = false → ∀ j, j < m → gi ts j ≠ 4
  | 0, _, j, hj => by omega
  | m + 1, h, j, hj => by
    simp only [used4, Bool.or_eq_false_iff] at h
    by_cases e : j = m
    · subst e; simpa using h.2
    · exact used4_no m h.1 j (by omega)

theorem stow_move {xs ts : List Int} (h : stowB xs ts = true) {k : Nat} (hu : used4 ts ts.length = false) : stowB xs (mvTo ts k ts.length) = true := by
  obtain ⟨hx, hl, hs⟩ := stowB_true.1 h
  have hno := used4_no _ hu
  refine stowB_true.2 ⟨hx, by rw [mvTo_len]; omega, ?_⟩
  rw [mvTo_len]
  intro i hi
  have h1 := hs i hi
  rw [mvTo_gi hi]
  refine ⟨by unfold mv; split <;> omega, fun j hj he => ?_⟩
  rw [mvTo_gi (by omega)] at he
  have h2 := hno i hi
  have h3 := hno j (by omega)
  refine h1.2 j hj ?_
  unfold mv at he
  split at he <;> split at he <;> omega

/-- A list turned round. -/
theorem rev_gi {xs : List Int} {j : Nat} (hj : j < xs.length) : gi xs.reverse j = gi xs (xs.length - 1 - j) := by
  simp only [gi]
  rw [List.getElem?_reverse hj]

theorem back_ord {xs : List Int} (hx : ordB xs = true) : ordB (backL xs) = true := by
  have hl := (ordB_true.1 hx).1
  refine ordB_true.2 ⟨by rw [backL_len]; exact hl, ?_⟩
  rw [backL_len]
  intro i hi
  have h1 := inv1_spec hx (show xs.length - 1 - i < xs.length by omega)
  rw [backL_gi hi, backL_len]
  refine ⟨by omega, fun j hj he => ?_⟩
  rw [backL_gi (by omega)] at he
  have h2 := inv1_spec hx (show xs.length - 1 - j < xs.length by omega)
  have : inv1 xs (xs.length - 1 - i) = inv1 xs (xs.length - 1 - j) := by omega
  rw [this] at h1
  omega

theorem stow_back {xs ts : List Int} (h : stowB xs ts = true) : stowB (backL xs) (outL xs ts).reverse = true := by
  obtain ⟨hx, hl, hs⟩ := stowB_true.1 h
  refine stowB_true.2 ⟨back_ord hx, by simp [backL_len, outL_len], ?_⟩
  rw [List.length_reverse, outL_len]
  intro i hi
  have h1 := inv1_spec hx (show xs.length - 1 - i < xs.length by omega)
  rw [rev_gi (by rw [outL_len]; exact hi), outL_len, outL_gi (by omega)]
  refine ⟨(hs _ (by omega)).1, fun j hj he => ?_⟩
  rw [rev_gi (by rw [outL_len]; omega), outL_len, outL_gi (by omega)] at he
  have h2 := inv1_spec hx (show xs.length - 1 - j < xs.length by omega)
  rw [backL_gi hi, backL_gi (by omega)]
  rcases Nat.lt_trichotomy (inv1 xs (xs.length - 1 - i)) (inv1 xs (xs.length - 1 - j)) with hlt | heq | hgt
  · have := (hs (inv1 xs (xs.length - 1 - j)) (by omega)).2 _ hlt he.symm
    omega
  · rw [heq] at h1; omega
  · omega

theorem out_at {xs ts : List Int} (hx : ordB xs = true) {i : Nat} (hi : i < xs.length) : gi (outL xs ts) (gi xs i).toNat = gi ts i := by
  have h1 := ordB_in hx hi
  rw [outL_gi (by omega), inv1_of hx hi]

theorem maxTo_ge {f : Nat → Nat} : ∀ m t, t < m → f t ≤ maxTo f m
  | 0, t, h => by omega
  | m + 1, t, h => by
    simp only [maxTo]
    by_cases e : t = m
    · subst e; omega
    · have := maxTo_ge (f := f) m t (by omega); omega

theorem most_zero {xs ts : List Int} (h : stowB xs ts = true) : maxTo (fun t => cnt ts (t : Int) ts.length) 5 = 0 ↔ xs.length = 0 := by
  obtain ⟨hx, hl, hs⟩ := stowB_true.1 h
  constructor
  · intro h0
    by_cases e : xs.length = 0
    · exact e
    · have h1 := (hs 0 (by omega)).1
      have h2 := maxTo_ge (f := fun t => cnt ts (t : Int) ts.length) 5 (gi ts 0).toNat (by omega)
      have h3 : 0 < cnt ts (((gi ts 0).toNat : Nat) : Int) ts.length := cnt_pos.2 ⟨0, by omega, by omega⟩
      omega
  · intro h0
    have := maxTo_le (f := fun t => cnt ts (t : Int) ts.length) (b := 0) (fun t => by have := cnt_le ts (t : Int) ts.length; omega) 5
    omega

end Go.Proofs.Ytldjnfcdmhcjdaa
