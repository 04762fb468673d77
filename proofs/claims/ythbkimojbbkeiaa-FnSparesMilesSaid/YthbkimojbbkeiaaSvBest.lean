/- Contracts: ServeBest of the reference; slices.Clone and slices.Clip of ints. -/
import Derived.Test.YthbkimojbbkeiaaSvLeast
import Derived.Lib.SliceRun
namespace Go.Proofs.Ythbkimojbbkeiaa
open Go.RowKit

/-- What ServeBest answers. -/
def sbL (cs : List Int) (n : Nat) (ds : List Int) (m : Nat) : List Int := if scB cs n ds m then grd cs ds n m [] else []

/-- slices.Clone of a list that is not nil. -/
theorem cloneI_any (g c : Nat) (xs : List Int) (hi : Nat) (w : World) (hx : xs.length ≤ 1000) (hv : Rs w hi (.slice (some ⟨g, 0, none⟩) xs.length c) xs) :
    Calls Try.prog 86 #[.slice (some ⟨g, 0, none⟩) xs.length c] w fun e w' => ∃ v', e = .returned v' ∧ Hid (OwI w' w.heap.size v' xs) ∧ Hid (Below w.heap.size w w') := by
  have bx := (Below.refl w.heap.size w).alloc (Nat.le_refl _) (.cells #[] 3)
  have BX := Lib.hid bx
  have OW := Lib.hid (OwI.empty w w.heap.size (Nat.le_refl _))
  have SR := Lib.hid (hv.old bx).2
  have hz2 : w.heap.size ≤ (w.alloc (.cells #[] 3)).heap.size := by simp
  obtain ⟨l, hl⟩ : ∃ l, xs.length = l := ⟨_, rfl⟩
  rw [hl] at SR ⊢
  have HL := Lib.hid hl
  have q := Lib.run_eql_slice_nil (P := Try.prog) w 38 3 (some ⟨g, 0, none⟩) l c 0 0 Try.underlying38
  clear bx hv hl
  go_enter Try.func86, Try.ntmps86
  go_wp2_with (at_builtin; refine wpList_app OW.out SR.out (by rfl) (by rfl) (by rfl) (by rfl) (by simp) (by omega) hz2 ?_; intro v5 w5 ow5 b5 g5; clear g5; have OW5 := Lib.hid ow5; have B5 := Lib.hid b5; clear ow5 b5)
  go_ret
  exact ⟨_, rfl, OW5, Lib.hid (BX.out.trans B5.out)⟩

/-- slices.Clip. -/
theorem clipI_any (a : Option Addr) (n c : Nat) (w : World) (hn : n ≤ c) :
    Calls Try.prog 87 #[.slice a n c] w fun e w' => e = .returned (.slice a n n) ∧ w = w' := by
  go_enter Try.func87, Try.ntmps87
  go_wp2_with fail
  go_ret
  exact ⟨rfl, rfl⟩

end Go.Proofs.Ythbkimojbbkeiaa
