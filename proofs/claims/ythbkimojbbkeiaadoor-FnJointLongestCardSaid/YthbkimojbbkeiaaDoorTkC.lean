/- Contracts: slices.Clone and slices.Clip of lists of spares. -/
import Derived.Test.YthbkimojbbkeiaaDoorApS
import Derived.Test.YthbkimojbbkeiaaDoorSpFit
import Derived.Deep.CutRange
import Derived.Lib.SliceRun
namespace Go.Proofs.YthbkimojbbkeiaaDoor
open Go.RowKit

/-- slices.Clone of a list that is not nil. -/
theorem cloneP_any (ad : Addr) (c n hi : Nat) (cs : List Int) (w : World) (hn : n ≤ 1000) (hv : SlF 2 w hi (.slice (some ad) n c) cs n) :
    Calls Tryd.prog 32 #[.slice (some ad) n c] w fun e w' => ∃ v', e = .returned v' ∧ Hid (OwP w' w.heap.size v' cs n) ∧ Hid (Below w.heap.size w w') := by
  have bx := (Below.refl w.heap.size w).alloc (Nat.le_refl _) (.cells #[] 30)
  have BX := Lib.hid bx
  have OW := Lib.hid (OwP.empty w w.heap.size (Nat.le_refl _))
  have SR := Lib.hid (hv.old bx)
  have hz2 : w.heap.size ≤ (w.alloc (.cells #[] 30)).heap.size := by simp
  have q := Lib.run_eql_slice_nil (P := Tryd.prog) w 23 30 (some ad) n c 0 0 Tryd.underlying23
  clear bx hv
  go_enter Tryd.func32, Tryd.ntmps32
  go_wp2_with (at_builtin; refine wpList_appS OW.out SR.out (by rfl) (by rfl) (by rfl) (by rfl) (by omega) (by omega) hz2 ?_; intro v5 w5 ow5 b5; rw [List.nil_append, Nat.zero_add] at ow5; have OW5 := Lib.hid ow5; have B5 := Lib.hid b5; clear ow5 b5)
  go_ret
  exact ⟨_, rfl, OW5, Lib.hid (BX.out.trans B5.out)⟩

/-- slices.Clip. -/
theorem clipP_any (a : Option Addr) (n c : Nat) (w : World) (hn : n ≤ c) :
    Calls Tryd.prog 37 #[.slice a n c] w fun e w' => e = .returned (.slice a n n) ∧ w = w' := by
  go_enter Tryd.func37, Tryd.ntmps37
  go_wp2_with fail
  go_ret
  exact ⟨rfl, rfl⟩

end Go.Proofs.YthbkimojbbkeiaaDoor
