/- Plain: one name changed in the best serving; contracts for the laws on ServeBest. -/
import Derived.Test.YthbkimojbbkeiaaSvG2
import Derived.Test.YthbkimojbbkeiaaSame
namespace Go.Proofs.Ythbkimojbbkeiaa
open Go.RowKit

theorem giset {ys : List Int} {k j : Nat} {u : Int} (hk : k < ys.length) : gi (ys.set k u) j = if k = j then u else gi ys j := by
  unfold gi
  rw [List.getElem?_set]
  split
  · rename_i h; subst h; simp
  · rfl
theorem sw_swap {cs ds : List Int} {n m i j : Nat} {T : Int} (h : scB cs n ds m = true) (hi : i < m) (hT : swI cs n ds m ((sbL cs n ds m).set i (j : Int)) = T) (h0 : 0 ≤ T) :
    swI cs n ds m (sbL cs n ds m) ≤ T ∧ (T = swI cs n ds m (sbL cs n ds m) → gi (sbL cs n ds m) i ≤ (j : Int)) := by
  have hv := sw_neg (cs := cs) (n := n) (ds := ds) (m := m) (sv := (sbL cs n ds m).set i (j : Int)) (by omega)
  obtain ⟨hb, hl, -, hg⟩ := best_of_sc h
  refine ⟨by rw [← hT]; exact best_le hv, fun e => ?_⟩
  rw [← hT, sw_lo hv, sw_lo hb, hg] at e
  obtain ⟨-, hs⟩ := svB_mem.1 hv
  rw [hg] at hs hl
  rcases grd_first m [] _ (by simp) hs e with e2 | ⟨p, hp, -, h2⟩
  · have := congrArg (fun l => gi l i) e2
    simp only [giset (show i < (grd cs ds n m []).length by omega), if_true] at this
    rw [hg]; omega
  · rw [giset (by omega)] at h2
    rw [hg]
    split at h2
    · rename_i e3; subst e3; omega
    · omega
theorem Wr.rs {w : World} {lo hi : Nat} {v : Value} {xs : List Int} (h : Wr w lo hi v xs) (hn : 0 < xs.length) : Rs w hi v xs := by
  refine ⟨h.sl, ?_⟩
  obtain ⟨a, n, cap, rfl, hl, h1, h2, h3, h4⟩ := h.sl
  obtain ⟨b, off, rfl, hb, hc⟩ := h4 (by omega)
  subst hl
  exact .inr ⟨b, off, cap, rfl, hc⟩
theorem sameInts_b {r : Bool} (va vb : Value) (xs ys : List Int) (ha hb : Nat) (w : World) (h1 : Sl w ha va xs) (h2 : Sl w hb vb ys) (h : decide (xs = ys) = r) :
    Calls Try.prog 52 #[va, vb] w fun e w' => e = .returned (.bool r) ∧ Below w.heap.size w w' := (sameInts_is va vb xs ys ha hb w h1 h2 h).mono (by
  rintro e _ ⟨rfl, d, rfl⟩
  exact ⟨rfl, below_drewN (Below.refl _ _) d⟩)

end Go.Proofs.Ythbkimojbbkeiaa
