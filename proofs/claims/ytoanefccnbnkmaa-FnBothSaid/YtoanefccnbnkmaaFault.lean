/- Contracts: FaultValid, sides, FaultOpen, FaultLess of the program and of the reference. -/
import Derived.Test.YtoanefccnbnkmaaCabI
import Derived.Test.YtoanefccnbnkmaaFaultLaw
import Derived.Lib.QuietBelow
namespace Go.Proofs.Ytoanefccnbnkmaa
open Go.RowKit

theorem nextW {W w w' : World} (B : Below W.heap.size W w) (b : Below w.heap.size w w') : Below W.heap.size W w' := B.trans (b.mono B.size)

theorem sameB {P : Program} {f : FuncId} {args : Array Value} {w : World} {v : Value} (h : Calls P f args w fun e w' => e = .returned v ∧ w = w') : Calls P f args w fun e w' => e = .returned v ∧ Below w.heap.size w w' :=
  h.mono fun _ _ ⟨he, hw⟩ => ⟨he, hw ▸ Below.refl _ _⟩
theorem within_ib {r : Bool} (n a b : Int) (w : World) (h : inB n a b = r) : Calls Try.prog 90 #[.int .i64 n, .int .i64 a, .int .i64 b] w fun e w' => e = .returned (.bool r) ∧ Below w.heap.size w w' := sameB (within_is n a b w h)
theorem l6In_ib {r : Bool} (n a b : Int) (w : World) (h : inB n a b = r) : Calls Try.prog 66 #[.int .i64 n, .int .i64 a, .int .i64 b] w fun e w' => e = .returned (.bool r) ∧ Below w.heap.size w w' := sameB (l6In_is n a b w h)

theorem keep4 {W wq w1 : World} {a0 a1 a2 a3 : Addr} {x0 x1 x2 x3 : Value} (b : Below wq.heap.size wq w1) (h : wq.cell? a0 = some x0 ∧ wq.cell? a1 = some x1 ∧ wq.cell? a2 = some x2 ∧ wq.cell? a3 = some x3 ∧ Below W.heap.size W wq) : w1.cell? a0 = some x0 ∧ w1.cell? a1 = some x1 ∧ w1.cell? a2 = some x2 ∧ w1.cell? a3 = some x3 ∧ Below W.heap.size W w1 :=
  ⟨(b.cell (World.block_lt_of_cell? wq _ h.1)).trans h.1, (b.cell (World.block_lt_of_cell? wq _ h.2.1)).trans h.2.1, (b.cell (World.block_lt_of_cell? wq _ h.2.2.1)).trans h.2.2.1, (b.cell (World.block_lt_of_cell? wq _ h.2.2.2.1)).trans h.2.2.2.1, nextW h.2.2.2.2 b⟩
theorem keep2 {W wq w1 : World} {a0 a1 : Addr} {x0 x1 : Value} (b : Below wq.heap.size wq w1) (h : wq.cell? a0 = some x0 ∧ wq.cell? a1 = some x1 ∧ Below W.heap.size W wq) : w1.cell? a0 = some x0 ∧ w1.cell? a1 = some x1 ∧ Below W.heap.size W w1 :=
  ⟨(b.cell (World.block_lt_of_cell? wq _ h.1)).trans h.1, (b.cell (World.block_lt_of_cell? wq _ h.2.1)).trans h.2.1, nextW h.2.2 b⟩

theorem ohmsValid_any (f : Int) (w : World) : Calls Try.prog 73 #[.int .i64 f] w fun e w' => e = .returned (.bool (inB f 0 1000)) ∧ w = w' := by
  go_enter Try.func73, Try.ntmps73
  go_wp2_with fail
  refine (within_any _ _ _ _).mono ?_
  rintro e _ ⟨rfl, rfl⟩
  go_wp2
  go_ret
  exact ⟨rfl, rfl⟩
theorem ohmsValid_b (f : Int) (w : World) : Calls Try.prog 73 #[.int .i64 f] w fun e w' => e = .returned (.bool (inB f 0 1000)) ∧ Below w.heap.size w w' := sameB (ohmsValid_any f w)
theorem ohmsValid_is {r : Bool} (f : Int) (w : World) (h : inB f 0 1000 = r) : Calls Try.prog 73 #[.int .i64 f] w fun e w' => e = .returned (.bool r) ∧ w = w' := h ▸ ohmsValid_any f w

/-- The block of a struct argument of two ints. -/
theorem box2 (w : World) (m f : Int) (t : TypeId) : Below w.heap.size w (w.alloc (.cells #[.int .i64 m, .int .i64 f] t)) ∧ (w.alloc (.cells #[.int .i64 m, .int .i64 f] t)).cell? ⟨w.heap.size, 0, none⟩ = some (.int .i64 m) ∧ (w.alloc (.cells #[.int .i64 m, .int .i64 f] t)).cell? ⟨w.heap.size, 1, none⟩ = some (.int .i64 f) := by
  have r0 := Row.new w #[.int .i64 m, .int .i64 f] t
  exact ⟨(Below.refl _ w).alloc (Nat.le_refl _) _, by rw [r0.cell]; rfl, by rw [r0.cell]; rfl⟩
theorem cellB {w w' : World} {a : Addr} {v : Value} (h : w.cell? a = some v) (b : Below w.heap.size w w') : w'.cell? a = some v := (b.cell (World.block_lt_of_cell? w _ h)).trans h

set_option maxHeartbeats 1000000 in
theorem implFaultValid_b (v : Value) (m f : Int) (cs : List Int) (n hi : Nat) (w : World) (hv : SlF 3 w hi v cs n) :
    Calls Try.prog 79 #[v, .agg #[.int .i64 m, .int .i64 f]] w fun e w' => e = .returned (.bool (fvB cs n m f)) ∧ Below w.heap.size w w' := by
  obtain ⟨b0, x0, x1⟩ := box2 w m f 41
  have HV := Lib.hid (hv.old b0)
  have B0 := Lib.hid b0
  have k0 := cell_regrown x0
  have k1 := cell_regrown x1
  clear hv b0 x0 x1
  cases h1 : inB m 0 (milesI cs n) with
  | false =>
    have HF : Hid (fvB cs n m f = false) := Lib.hid (by simp [fvB, h1])
    go_enter Try.func79, Try.ntmps79
    go_wp2
    refine wp_region_quiet_below (by kernel_rfl) (by kernel_rfl) ?_
    repeat (any_goals (first | go_big_quiet_step ((first | (go_at_call 42; exact Calls.regrown_of (implCableMiles_b _ cs n hi _ (HV.out.old (below_regrown _ _ _)))) | (go_at_call 90; exact Calls.regrown_of (within_ib _ _ _ _ h1)))) | quiet_step ((first | (go_at_call 42; exact Calls.regrown_of (implCableMiles_b _ cs n hi _ (HV.out.old (below_regrown _ _ _)))) | (go_at_call 90; exact Calls.regrown_of (within_ib _ _ _ _ h1))))))
    refine wpQuiet_nil ?_
    intro _ hw'
    obtain ⟨⟨dq, osq⟩, hw''⟩ := hw'
    subst hw''
    have bq := below_regrown (w.alloc (.cells #[.int .i64 m, .int .i64 f] 41)) dq osq
    revert bq
    generalize Go.Sort.grow (redrawn (w.alloc (.cells #[.int .i64 m, .int .i64 f] 41)) dq) osq = wq
    intro bq
    clear k0 k1
    go_wp2
    go_ret
    exact ⟨by rw [HF.out]; rfl, nextW B0.out bq⟩
  | true =>
    have HF : Hid (fvB cs n m f = inB f 0 1000) := Lib.hid (by simp [fvB, h1])
    go_enter Try.func79, Try.ntmps79
    go_wp2
    refine wp_region_quiet_below (by kernel_rfl) (by kernel_rfl) ?_
    repeat (any_goals (first | go_big_quiet_step ((first | (go_at_call 42; exact Calls.regrown_of (implCableMiles_b _ cs n hi _ (HV.out.old (below_regrown _ _ _)))) | (go_at_call 90; exact Calls.regrown_of (within_ib _ _ _ _ h1)) | (go_at_call 73; exact Calls.regrown_of (ohmsValid_b _ _)))) | quiet_step ((first | (go_at_call 42; exact Calls.regrown_of (implCableMiles_b _ cs n hi _ (HV.out.old (below_regrown _ _ _)))) | (go_at_call 90; exact Calls.regrown_of (within_ib _ _ _ _ h1)) | (go_at_call 73; exact Calls.regrown_of (ohmsValid_b _ _))))))
    refine wpQuiet_nil ?_
    intro _ hw'
    obtain ⟨⟨dq, osq⟩, hw''⟩ := hw'
    subst hw''
    have bq := below_regrown (w.alloc (.cells #[.int .i64 m, .int .i64 f] 41)) dq osq
    revert bq
    generalize Go.Sort.grow (redrawn (w.alloc (.cells #[.int .i64 m, .int .i64 f] 41)) dq) osq = wq
    intro bq
    clear k0 k1
    go_wp2
    go_ret
    exact ⟨by rw [HF.out]; rfl, nextW B0.out bq⟩

theorem implFaultValid_is {r : Bool} (v : Value) (m f : Int) (cs : List Int) (n hi : Nat) (w : World) (hv : SlF 3 w hi v cs n) (h : fvB cs n m f = r) :
    Calls Try.prog 79 #[v, .agg #[.int .i64 m, .int .i64 f]] w fun e w' => e = .returned (.bool r) ∧ Below w.heap.size w w' := h ▸ implFaultValid_b v m f cs n hi w hv

set_option maxHeartbeats 1000000 in
theorem specFaultValid_b (v : Value) (m f : Int) (cs : List Int) (n hi : Nat) (w : World) (hv : SlF 3 w hi v cs n) :
    Calls Try.prog 83 #[v, .agg #[.int .i64 m, .int .i64 f]] w fun e w' => e = .returned (.bool (fvB cs n m f)) ∧ Below w.heap.size w w' := by
  obtain ⟨b0, x0, x1⟩ := box2 w m f 41
  have HV := Lib.hid (hv.old b0)
  have B0 := Lib.hid b0
  have k0 := cell_regrown x0
  have k1 := cell_regrown x1
  clear hv b0 x0 x1
  cases hc : cabB cs n with
  | false =>
    have HF : Hid (fvB cs n m f = false) := Lib.hid (fvB_no hc)
    go_enter Try.func83, Try.ntmps83
    go_wp2
    refine wp_region_quiet_below (by kernel_rfl) (by kernel_rfl) ?_
    repeat (any_goals (first | go_big_quiet_step ((first | (go_at_call 78; exact Calls.regrown_of (specCableValid_is _ cs n hi _ (HV.out.old (below_regrown _ _ _)) hc)))) | quiet_step ((first | (go_at_call 78; exact Calls.regrown_of (specCableValid_is _ cs n hi _ (HV.out.old (below_regrown _ _ _)) hc))))))
    refine wpQuiet_nil ?_
    intro _ hw'
    obtain ⟨⟨dq, osq⟩, hw''⟩ := hw'
    subst hw''
    have bq := below_regrown (w.alloc (.cells #[.int .i64 m, .int .i64 f] 41)) dq osq
    revert bq
    generalize Go.Sort.grow (redrawn (w.alloc (.cells #[.int .i64 m, .int .i64 f] 41)) dq) osq = wq
    intro bq
    clear k0 k1
    go_wp2
    go_ret
    exact ⟨by rw [HF.out]; rfl, nextW B0.out bq⟩
  | true =>
    cases h1 : inB m 0 (milesI cs n) with
    | false =>
      have HF : Hid (fvB cs n m f = false) := Lib.hid (by simp [fvB, h1])
      go_enter Try.func83, Try.ntmps83
      go_wp2
      refine wp_region_quiet_below (by kernel_rfl) (by kernel_rfl) ?_
      repeat (any_goals (first | go_big_quiet_step ((first | (go_at_call 78; exact Calls.regrown_of (specCableValid_is _ cs n hi _ (HV.out.old (below_regrown _ _ _)) hc)) | (go_at_call 64; exact Calls.regrown_of (specCableMiles_b _ cs n hi _ (HV.out.old (below_regrown _ _ _)))) | (go_at_call 66; exact Calls.regrown_of (l6In_ib _ _ _ _ h1)))) | quiet_step ((first | (go_at_call 78; exact Calls.regrown_of (specCableValid_is _ cs n hi _ (HV.out.old (below_regrown _ _ _)) hc)) | (go_at_call 64; exact Calls.regrown_of (specCableMiles_b _ cs n hi _ (HV.out.old (below_regrown _ _ _)))) | (go_at_call 66; exact Calls.regrown_of (l6In_ib _ _ _ _ h1))))))
      refine wpQuiet_nil ?_
      intro _ hw'
      obtain ⟨⟨dq, osq⟩, hw''⟩ := hw'
      subst hw''
      have bq := below_regrown (w.alloc (.cells #[.int .i64 m, .int .i64 f] 41)) dq osq
      revert bq
      generalize Go.Sort.grow (redrawn (w.alloc (.cells #[.int .i64 m, .int .i64 f] 41)) dq) osq = wq
      intro bq
      clear k0 k1
      go_wp2
      go_ret
      exact ⟨by rw [HF.out]; rfl, nextW B0.out bq⟩
    | true =>
      have HF : Hid (fvB cs n m f = inB f 0 1000) := Lib.hid (by simp [fvB, h1])
      go_enter Try.func83, Try.ntmps83
      go_wp2
      refine wp_region_quiet_below (by kernel_rfl) (by kernel_rfl) ?_
      repeat (any_goals (first | go_big_quiet_step ((first | (go_at_call 78; exact Calls.regrown_of (specCableValid_is _ cs n hi _ (HV.out.old (below_regrown _ _ _)) hc)) | (go_at_call 64; exact Calls.regrown_of (specCableMiles_b _ cs n hi _ (HV.out.old (below_regrown _ _ _)))) | (go_at_call 66; exact Calls.regrown_of (l6In_ib _ _ _ _ h1)) | (go_at_call 66; exact Calls.regrown_of (sameB (l6In_any _ _ _ _))))) | quiet_step ((first | (go_at_call 78; exact Calls.regrown_of (specCableValid_is _ cs n hi _ (HV.out.old (below_regrown _ _ _)) hc)) | (go_at_call 64; exact Calls.regrown_of (specCableMiles_b _ cs n hi _ (HV.out.old (below_regrown _ _ _)))) | (go_at_call 66; exact Calls.regrown_of (l6In_ib _ _ _ _ h1)) | (go_at_call 66; exact Calls.regrown_of (sameB (l6In_any _ _ _ _)))))))
      refine wpQuiet_nil ?_
      intro _ hw'
      obtain ⟨⟨dq, osq⟩, hw''⟩ := hw'
      subst hw''
      have bq := below_regrown (w.alloc (.cells #[.int .i64 m, .int .i64 f] 41)) dq osq
      revert bq
      generalize Go.Sort.grow (redrawn (w.alloc (.cells #[.int .i64 m, .int .i64 f] 41)) dq) osq = wq
      intro bq
      clear k0 k1
      go_wp2
      go_ret
      exact ⟨by rw [HF.out]; rfl, nextW B0.out bq⟩
theorem specFaultValid_is {r : Bool} (v : Value) (m f : Int) (cs : List Int) (n hi : Nat) (w : World) (hv : SlF 3 w hi v cs n) (h : fvB cs n m f = r) :
    Calls Try.prog 83 #[v, .agg #[.int .i64 m, .int .i64 f]] w fun e w' => e = .returned (.bool r) ∧ Below w.heap.size w w' := h ▸ specFaultValid_b v m f cs n hi w hv

theorem allI_bd {cs : List Int} {n : Nat} : -1 ≤ allI cs n ∧ allI cs n ≤ 8000 := ohmsI_bd

theorem l3Sides_b (v : Value) (m : Int) (cs : List Int) (n hi : Nat) (w : World) (hv : SlF 3 w hi v cs n) :
    Calls Try.prog 65 #[v, .int .i64 m] w fun e w' => e = .returned (.tuple #[.int .i64 (ohmsI cs n m), .int .i64 (allI cs n - ohmsI cs n m)]) ∧ Below w.heap.size w w' := by
  obtain ⟨o1, o2⟩ := ohmsI_bd (cs := cs) (n := n) (m := m)
  obtain ⟨o3, o4⟩ := allI_bd (cs := cs) (n := n)
  go_enter Try.func65, Try.ntmps65
  go_wp2_with fail
  refine (specCableOhms_b _ m cs n hi _ hv).mono ?_
  rintro e w1 ⟨rfl, b1⟩
  have B1 := Lib.hid b1
  have V1 := Lib.hid (hv.old b1)
  clear b1 hv
  go_wp2_with fail
  refine (specCableAll_b _ cs n hi _ V1.out).mono ?_
  rintro e w2 ⟨rfl, b2⟩
  have B2 := Lib.hid (nextW B1.out b2)
  clear b2
  go_wp2
  go_ret2
  exact ⟨rfl, B2.out⟩

theorem sides_b (v : Value) (m f : Int) (cs : List Int) (n hi : Nat) (w : World) (hv : SlF 3 w hi v cs n) :
    Calls Try.prog 80 #[v, .agg #[.int .i64 m, .int .i64 f]] w fun e w' => e = .returned (.tuple #[.int .i64 (ohmsI cs n m), .int .i64 (allI cs n - ohmsI cs n m)]) ∧ Below w.heap.size w w' := by
  obtain ⟨o1, o2⟩ := ohmsI_bd (cs := cs) (n := n) (m := m)
  obtain ⟨o3, o4⟩ := allI_bd (cs := cs) (n := n)
  obtain ⟨b0, -, -⟩ := box2 w m f 41
  have V0 := Lib.hid (hv.old b0)
  have B0 := Lib.hid b0
  clear hv b0
  go_enter Try.func80, Try.ntmps80
  go_wp2_with fail
  refine (implCableOhms_b _ m cs n hi _ V0.out).mono ?_
  rintro e w1 ⟨rfl, b1⟩
  have B1 := Lib.hid (nextW B0.out b1)
  have V1 := Lib.hid (V0.out.old b1)
  clear b1
  go_wp2_with fail
  refine (implCableAll_b _ cs n hi _ V1.out).mono ?_
  rintro e w2 ⟨rfl, b2⟩
  have B2 := Lib.hid (nextW B1.out b2)
  clear b2
  go_wp2
  go_ret2
  exact ⟨rfl, B2.out⟩

set_option maxHeartbeats 1000000 in
theorem implFaultOpen_b (v : Value) (m f : Int) (cs : List Int) (n hi : Nat) (w : World) (hv : SlF 3 w hi v cs n) :
    Calls Try.prog 41 #[v, .agg #[.int .i64 m, .int .i64 f]] w fun e w' => e = .returned (.tuple #[.int .i64 (opA cs n m f), .int .i64 (opB cs n m f), .bool (fvB cs n m f)]) ∧ Below w.heap.size w w' := by
  obtain ⟨b0, x0, x1⟩ := box2 w m f 41
  have V0 := Lib.hid (hv.old b0)
  have B0 := Lib.hid b0
  have X0 := Lib.hid x0
  have X1 := Lib.hid x1
  clear hv b0 x0 x1
  cases h1 : fvB cs n m f with
  | false =>
    have HO := Lib.hid (op_no h1)
    go_enter Try.func41, Try.ntmps41
    go_wp2_with fail
    refine (implFaultValid_is _ m f cs n hi _ V0.out h1).mono ?_
    rintro e w1 ⟨rfl, b1⟩
    have B1 := Lib.hid (nextW B0.out b1)
    clear b1
    go_wp2
    go_ret3
    exact ⟨by rw [HO.out.1, HO.out.2]; rfl, B1.out⟩
  | true =>
    have hs := sides_of h1
    have hf := (fvB_cab h1).2.2
    have HO : Hid (opA cs n m f = ohmsI cs n m + f ∧ opB cs n m f = allI cs n - ohmsI cs n m + f) := Lib.hid (by unfold opA opB; rw [if_pos h1, if_pos h1]; exact ⟨rfl, rfl⟩)
    have o1 : 0 ≤ ohmsI cs n m := by omega
    have o2 : ohmsI cs n m ≤ 8000 := by omega
    have o3 : 0 ≤ allI cs n - ohmsI cs n m := by omega
    have o4 : allI cs n - ohmsI cs n m ≤ 8000 := by omega
    obtain ⟨f1, f2⟩ := hf
    clear hs
    go_enter Try.func41, Try.ntmps41
    go_wp2_with fail
    refine (implFaultValid_is _ m f cs n hi _ V0.out h1).mono ?_
    rintro e w1 ⟨rfl, b1⟩
    have B1 := Lib.hid (nextW B0.out b1)
    have V1 := Lib.hid (V0.out.old b1)
    have c0 := cellB X0.out b1
    have c1 := cellB X1.out b1
    clear b1
    go_wp2_with fail
    refine (sides_b _ m f cs n hi _ V1.out).mono ?_
    rintro e w2 ⟨rfl, b2⟩
    have B2 := Lib.hid (nextW B1.out b2)
    replace c1 := cellB c1 b2
    clear b2 c0
    revert HO o1 o2 o3 o4
    generalize ohmsI cs n m = R
    generalize allI cs n - R = S
    intro HO o1 o2 o3 o4
    go_wp2
    go_quiet (fail)
    go_wp2
    go_ret3
    exact ⟨by rw [HO.out.1, HO.out.2]; rfl, below_drewN B2.out _⟩

theorem implFaultLess_b (v : Value) (m f m' f' : Int) (cs : List Int) (n hi : Nat) (w : World) (hv : SlF 3 w hi v cs n) :
    Calls Try.prog 29 #[v, .agg #[.int .i64 m, .int .i64 f], .agg #[.int .i64 m', .int .i64 f']] w fun e w' => e = .returned (.bool (lessB cs n m f m' f')) ∧ Below w.heap.size w w' := by
  have b0 := ((Below.refl w.heap.size w).alloc (Nat.le_refl _) (.cells #[.int .i64 m, .int .i64 f] 41)).alloc (by simp) (.cells #[.int .i64 m', .int .i64 f'] 41)
  have V0 := Lib.hid (hv.old b0)
  have r1 := Row.new (w.alloc (.cells #[.int .i64 m, .int .i64 f] 41)) #[.int .i64 m', .int .i64 f'] 41
  rw [World.size_alloc] at r1
  have X0 : Hid _ := Lib.hid (show ((w.alloc (.cells #[.int .i64 m, .int .i64 f] 41)).alloc (.cells #[.int .i64 m', .int .i64 f'] 41)).cell? ⟨w.heap.size + 1, 0, none⟩ = some (.int .i64 m') from by rw [r1.cell]; rfl)
  have X1 : Hid _ := Lib.hid (show ((w.alloc (.cells #[.int .i64 m, .int .i64 f] 41)).alloc (.cells #[.int .i64 m', .int .i64 f'] 41)).cell? ⟨w.heap.size + 1, 1, none⟩ = some (.int .i64 f') from by rw [r1.cell]; rfl)
  have B0 := Lib.hid b0
  have HE : Hid (lessB cs n m f m' f' = (fvB cs n m f && fvB cs n m' f' && decide (opA cs n m f < opA cs n m' f') && decide (opB cs n m f < opB cs n m' f'))) := Lib.hid rfl
  clear hv b0 r1
  go_enter Try.func29, Try.ntmps29
  go_wp2_with fail
  refine (implFaultOpen_b _ m f cs n hi _ V0.out).mono ?_
  rintro e w1 ⟨rfl, b1⟩
  have B1 := Lib.hid (nextW B0.out b1)
  have V1 := Lib.hid (V0.out.old b1)
  have c0 := cellB X0.out b1
  have c1 := cellB X1.out b1
  clear b1
  go_wp2_with fail
  refine (implFaultOpen_b _ m' f' cs n hi _ V1.out).mono ?_
  rintro e w2 ⟨rfl, b2⟩
  have B2 := Lib.hid (nextW B1.out b2)
  clear b2 c0 c1
  revert HE
  generalize opA cs n m f = A
  generalize opB cs n m f = B
  generalize opA cs n m' f' = A'
  generalize opB cs n m' f' = B'
  generalize fvB cs n m f = p
  generalize fvB cs n m' f' = q
  intro HE
  cases p with
  | false =>
    go_wp2
    go_ret
    exact ⟨by rw [HE.out]; rfl, B2.out⟩
  | true =>
    cases q with
    | false =>
      go_wp2
      go_ret
      exact ⟨by rw [HE.out]; rfl, B2.out⟩
    | true =>
      cases h3 : decide (A < A') with
      | false =>
        go_wp2
        go_ret
        exact ⟨by rw [HE.out, h3]; rfl, B2.out⟩
      | true =>
        go_wp2
        go_ret
        exact ⟨by rw [HE.out, h3]; rfl, B2.out⟩

set_option maxHeartbeats 1000000 in
theorem specFaultOpen_b (v : Value) (m f : Int) (cs : List Int) (n hi : Nat) (w : World) (hv : SlF 3 w hi v cs n) :
    Calls Try.prog 56 #[v, .agg #[.int .i64 m, .int .i64 f]] w fun e w' => e = .returned (.tuple #[.int .i64 (opA cs n m f), .int .i64 (opB cs n m f), .bool (fvB cs n m f)]) ∧ Below w.heap.size w w' := by
  obtain ⟨b0, x0, x1⟩ := box2 w m f 41
  have V0 := Lib.hid (hv.old b0)
  have B0 := Lib.hid b0
  have X0 := Lib.hid x0
  have X1 := Lib.hid x1
  clear hv b0 x0 x1
  cases h1 : fvB cs n m f with
  | false =>
    have HO := Lib.hid (op_no h1)
    go_enter Try.func56, Try.ntmps56
    go_wp2_with fail
    refine (specFaultValid_is _ m f cs n hi _ V0.out h1).mono ?_
    rintro e w1 ⟨rfl, b1⟩
    have B1 := Lib.hid (nextW B0.out b1)
    clear b1
    go_wp2
    go_ret3
    exact ⟨by rw [HO.out.1, HO.out.2]; rfl, B1.out⟩
  | true =>
    have hs := sides_of h1
    have hf := (fvB_cab h1).2.2
    have HO : Hid (opA cs n m f = ohmsI cs n m + f ∧ opB cs n m f = allI cs n - ohmsI cs n m + f) := Lib.hid (by unfold opA opB; rw [if_pos h1, if_pos h1]; exact ⟨rfl, rfl⟩)
    have o1 : 0 ≤ ohmsI cs n m := by omega
    have o2 : ohmsI cs n m ≤ 8000 := by omega
    have o3 : 0 ≤ allI cs n - ohmsI cs n m := by omega
    have o4 : allI cs n - ohmsI cs n m ≤ 8000 := by omega
    obtain ⟨f1, f2⟩ := hf
    clear hs
    go_enter Try.func56, Try.ntmps56
    go_wp2_with fail
    refine (specFaultValid_is _ m f cs n hi _ V0.out h1).mono ?_
    rintro e w1 ⟨rfl, b1⟩
    have B1 := Lib.hid (nextW B0.out b1)
    have V1 := Lib.hid (V0.out.old b1)
    have c0 := cellB X0.out b1
    have c1 := cellB X1.out b1
    clear b1
    go_wp2_with fail
    refine (l3Sides_b _ m cs n hi _ V1.out).mono ?_
    rintro e w2 ⟨rfl, b2⟩
    have B2 := Lib.hid (nextW B1.out b2)
    replace c1 := cellB c1 b2
    clear b2 c0
    revert HO o1 o2 o3 o4
    generalize ohmsI cs n m = R
    generalize allI cs n - R = S
    intro HO o1 o2 o3 o4
    go_wp2
    go_quiet (fail)
    go_wp2
    go_ret3
    exact ⟨by rw [HO.out.1, HO.out.2]; rfl, below_drewN B2.out _⟩

theorem specFaultLess_b (v : Value) (m f m' f' : Int) (cs : List Int) (n hi : Nat) (w : World) (hv : SlF 3 w hi v cs n) :
    Calls Try.prog 27 #[v, .agg #[.int .i64 m, .int .i64 f], .agg #[.int .i64 m', .int .i64 f']] w fun e w' => e = .returned (.bool (lessB cs n m f m' f')) ∧ Below w.heap.size w w' := by
  have b0 := ((Below.refl w.heap.size w).alloc (Nat.le_refl _) (.cells #[.int .i64 m, .int .i64 f] 41)).alloc (by simp) (.cells #[.int .i64 m', .int .i64 f'] 41)
  have V0 := Lib.hid (hv.old b0)
  have r1 := Row.new (w.alloc (.cells #[.int .i64 m, .int .i64 f] 41)) #[.int .i64 m', .int .i64 f'] 41
  rw [World.size_alloc] at r1
  have X0 : Hid _ := Lib.hid (show ((w.alloc (.cells #[.int .i64 m, .int .i64 f] 41)).alloc (.cells #[.int .i64 m', .int .i64 f'] 41)).cell? ⟨w.heap.size + 1, 0, none⟩ = some (.int .i64 m') from by rw [r1.cell]; rfl)
  have X1 : Hid _ := Lib.hid (show ((w.alloc (.cells #[.int .i64 m, .int .i64 f] 41)).alloc (.cells #[.int .i64 m', .int .i64 f'] 41)).cell? ⟨w.heap.size + 1, 1, none⟩ = some (.int .i64 f') from by rw [r1.cell]; rfl)
  have B0 := Lib.hid b0
  have HE : Hid (lessB cs n m f m' f' = (fvB cs n m f && fvB cs n m' f' && decide (opA cs n m f < opA cs n m' f') && decide (opB cs n m f < opB cs n m' f'))) := Lib.hid rfl
  clear hv b0 r1
  go_enter Try.func27, Try.ntmps27
  go_wp2_with fail
  refine (specFaultOpen_b _ m f cs n hi _ V0.out).mono ?_
  rintro e w1 ⟨rfl, b1⟩
  have B1 := Lib.hid (nextW B0.out b1)
  have V1 := Lib.hid (V0.out.old b1)
  have c0 := cellB X0.out b1
  have c1 := cellB X1.out b1
  clear b1
  go_wp2_with fail
  refine (specFaultOpen_b _ m' f' cs n hi _ V1.out).mono ?_
  rintro e w2 ⟨rfl, b2⟩
  have B2 := Lib.hid (nextW B1.out b2)
  clear b2 c0 c1
  revert HE
  generalize opA cs n m f = A
  generalize opB cs n m f = B
  generalize opA cs n m' f' = A'
  generalize opB cs n m' f' = B'
  generalize fvB cs n m f = p
  generalize fvB cs n m' f' = q
  intro HE
  cases p with
  | false =>
    go_wp2
    go_ret
    exact ⟨by rw [HE.out]; rfl, B2.out⟩
  | true =>
    cases q with
    | false =>
      go_wp2
      go_ret
      exact ⟨by rw [HE.out]; rfl, B2.out⟩
    | true =>
      cases h3 : decide (A < A') with
      | false =>
        go_wp2
        go_ret
        exact ⟨by rw [HE.out, h3]; rfl, B2.out⟩
      | true =>
        go_wp2
        go_ret
        exact ⟨by rw [HE.out, h3]; rfl, B2.out⟩

end Go.Proofs.Ytoanefccnbnkmaa
