/- Contract: the order of the sort. -/
import Derived.Test.YthbkimojbbkeiaaDoorSoC
import Derived.Deep.RegionHeld3
namespace Go.Proofs.YthbkimojbbkeiaaDoor
open Go.RowKit

/-- What the order of the sort answers. -/
def soI (m1 k1 m2 k2 : Int) : Int := orI (cmpI k1 k2) (cmpI m2 m1)
set_option maxHeartbeats 1000000 in
theorem soCmp_b (m1 k1 m2 k2 : Int) (w : World) :
    Calls Tryd.prog 34 #[.agg #[.int .i64 m1, .int .i64 k1], .agg #[.int .i64 m2, .int .i64 k2]] w fun e w' => e = .returned (.int .i64 (soI m1 k1 m2 k2)) ∧ Below w.heap.size w w' := by
  have B1 := Lib.hid (((Below.refl w.heap.size w).alloc (Nat.le_refl _) (.cells #[.int .i64 m1, .int .i64 k1] 30)).alloc (by simp) (.cells #[.int .i64 m2, .int .i64 k2] 30))
  obtain ⟨bb, x0, x1⟩ := box2 w m1 k1 30
  obtain ⟨bc, y0, y1⟩ := box2 (w.alloc (.cells #[.int .i64 m1, .int .i64 k1] 30)) m2 k2 30
  replace x0 := cellB x0 bc
  replace x1 := cellB x1 bc
  rw [World.size_alloc] at y0 y1
  clear bb bc
  go_enter Tryd.func34, Tryd.ntmps34
  go_upto_region 1 with (fail)
  revert y1
  revert y0
  revert x1
  revert x0
  revert B1
  generalize ((w.alloc (.cells #[.int .i64 m1, .int .i64 k1] 30)).alloc (.cells #[.int .i64 m2, .int .i64 k2] 30)) = W
  intro B1 x0 x1 y0 y1
  have S0 := Lib.hid (And.intro x0 (And.intro x1 (And.intro y0 (And.intro y1 (below_drewN (Below.refl W.heap.size W) 1)))))
  go_region_held3 (fun w' => w'.cell? ⟨w.heap.size, 0, none⟩ = some (.int .i64 m1) ∧ w'.cell? ⟨w.heap.size, 1, none⟩ = some (.int .i64 k1) ∧ w'.cell? ⟨w.heap.size + 1, 0, none⟩ = some (.int .i64 m2) ∧ w'.cell? ⟨w.heap.size + 1, 1, none⟩ = some (.int .i64 k2) ∧ Below W.heap.size W w')
    (first | assumption | exact S0.out | exact keepS (by assumption) (by assumption) | exact keepS (by assumption) (below2 _ _ _))
    (first | (go_at_call 36; refine (compare_b _ _ _).mono ?_; rintro e wA ⟨rfl, bA⟩) | (go_at_call 35; refine (or_any (cmpI k1 k2) (cmpI m2 m1) _ _ (box2 _ _ _ _).2.1 (box2 _ _ _ _).2.2).mono ?_; rintro e _ ⟨rfl, rfl⟩))
  all_goals
    go_wp2
    go_ret
    exact ⟨rfl, nextW B1.out (show _ ∧ _ ∧ _ ∧ _ ∧ Below W.heap.size W _ from by assumption).2.2.2.2⟩

end Go.Proofs.YthbkimojbbkeiaaDoor
