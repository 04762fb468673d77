/- Contract: the list of a joint. -/
import Derived.Test.YthbkimojbbkeiaaDoorJbA
import Derived.Test.YthbkimojbbkeiaaDoorOwI
namespace Go.Proofs.YthbkimojbbkeiaaDoor
open Go.RowKit

theorem boxJ (w : World) (s : Nat) (m : Int) (t : TypeId) : Below w.heap.size w (w.alloc (.cells #[.int .u64 (s : Int), .int .i64 m] t)) ∧ (w.alloc (.cells #[.int .u64 (s : Int), .int .i64 m] t)).cell? ⟨w.heap.size, 0, none⟩ = some (.int .u64 (s : Int)) ∧ (w.alloc (.cells #[.int .u64 (s : Int), .int .i64 m] t)).cell? ⟨w.heap.size, 1, none⟩ = some (.int .i64 m) := by
  have r0 := Row.new w #[.int .u64 (s : Int), .int .i64 m] t
  exact ⟨(Below.refl _ w).alloc (Nat.le_refl _) _, by rw [r0.cell]; rfl, by rw [r0.cell]; rfl⟩
theorem cl_zero (s : Nat) : clN s 0 = s := by simp [clN]

set_option maxRecDepth 100000 in
set_option maxHeartbeats 4000000 in
theorem list_b (s : Nat) (m : Int) (w : World) (hs : s < 1024) (hT : Tb w) :
    Calls Tryd.prog 40 #[.agg #[.int .u64 (s : Int), .int .i64 m]] w fun e w' => ∃ v', e = .returned v' ∧ Hid (OwI w' w.heap.size v' (bitsL s 10)) ∧ Hid (Below w.heap.size w w') := by
  obtain ⟨b0, x0, x1⟩ := boxJ w s m 50
  have B0 := Lib.hid b0
  have T0 := Lib.hid (hT.old b0)
  have hz0 := b0.size
  have hw1 := hT.1
  have hpc : pcN s ≤ 10 := bitsL_len
  have hmk := fun w => mkCapI w (pcN s : Int) (by omega) (by omega)
  clear b0 x1 hT
  go_enter Tryd.func40, Tryd.ntmps40
  go_wp2_with fail
  refine (onesCount_b s hs _).mono ?_
  rintro e _ ⟨rfl, rfl⟩
  have x2 := cellB x0 ((Below.refl _ _).alloc (Nat.le_refl _) (.cells (Array.replicate (pcN s) (.int .i64 0)) 3))
  have ow := OwI.new (w.alloc (.cells #[.int .u64 (s : Int), .int .i64 m] 50)) w.heap.size (pcN s) (Array.replicate (pcN s) (.int .i64 0)) hz0 (by unfold maxLen; omega) (by simp)
  rw [World.size_alloc] at ow
  have OW := Lib.hid ow
  clear ow
  have B1 := Lib.hid (B0.out.alloc hz0 (.cells (Array.replicate (pcN s) (.int .i64 0)) 3))
  have T1 := Lib.hid (T0.out.old ((Below.refl _ _).alloc (Nat.le_refl _) (.cells (Array.replicate (pcN s) (.int .i64 0)) 3)))
  have C0 : Hid (clN s 0 = s) := Lib.hid (cl_zero s)
  go_wp2
  clear hmk
  go_loopw [3, 4] (fun o t wr => ∃ k : Nat, k ≤ 10 ∧ t = .int .u64 (clN s k : Int) ∧ Hid (OwI wr w.heap.size o (bitsL s k)) ∧ Hid (Below w.heap.size w wr) ∧ Hid (Tb wr)) (fun _ t _ => (intOf t).toNat)
  case atStart => exact ⟨0, by omega, by rw [C0.out], OW, B1, T1⟩
  case round =>
    clear OW B1 T1 x0 x2
    obtain ⟨k, hk, rfl, hO, hB, hTb⟩ := hrel
    have hct := cl_lt (k := k) hs
    by_cases h0 : clN s k = 0
    · have HE := Lib.hid (list_end s hs k hk h0)
      rw [h0]
      go_wp2
      go_ret
      exact ⟨_, rfl, by rw [← HE.out]; exact hO, hB⟩
    · obtain ⟨⟨h1, h1'⟩, h2, h3⟩ := list_step s hs k hk h0
      obtain ⟨h4, h5⟩ := nx_key _ hct h0
      have hne : ((clN s k : Int) != 0) = true := by rw [bne_iff_ne]; omega
      have H2 := Lib.hid h2
      have H3 := Lib.hid h3
      have hlen : (bitsL s k).length ≤ 1048576 := by have := bitsL_len (s := s) (n := k); omega
      have hz := hB.out.size
      clear h2 h3
      revert H3
      revert H2
      revert hne
      revert h5
      revert h4
      revert h1
      revert h0
      revert hct
      clear h1'
      generalize clN s k = t
      intro hct h0 h1 h4 h5 hne H2 H3
      go_wp2_with fail
      refine (trailing_b t hct h0 _ hTb.out).mono ?_
      rintro e _ ⟨rfl, rfl⟩
      go_wp2_with (at_builtin; refine wpList_push hO.out (by rfl) (by rfl) (by rfl) (by rfl) hlen hz ?_; intro v5 w5 ow5 b5; have OW5 := Lib.hid ow5; have B5 := Lib.hid b5; clear ow5 b5)
      go_roundw
      case rel => exact ⟨tzN t + 1, h1, by rw [← H3.out], by rw [← H2.out]; exact OW5, Lib.hid (hB.out.trans B5.out), Lib.hid (hTb.out.below B5.out hw1)⟩
      case measure => simp [intOf]; omega

end Go.Proofs.YthbkimojbbkeiaaDoor
