/- For all arguments, the program's FaultLess returns what the reference's returns, and the arguments read afterwards as they read before. No condition. -/
import Derived.Test.YtoanefccnbnkmaaLawF
import Derived.Test.YtoanefccnbnkmaaFault
import Derived.Test.YtoanefccnbnkmaaFlatSection
import Derived.Test.YtoanefccnbnkmaaFlatFault
import Derived.Deep.RegionHeld3
import Derived.Deep.Cut
namespace Go.Proofs.Ytoanefccnbnkmaa.fnExactFaultLess
open Go.ChangeShapes Go.WideShapes Go.ChangeAt Go.RowKit
set_option linter.unusedVariables false

set_option maxRecDepth 100000 in
set_option maxHeartbeats 2000000 in
theorem walk (a0 : Option Addr) (len0 cap0 : Nat) (z0 : List Int) (m1 n1 m2 n2 : Int) (w : World) (h0 : SlF0 3 w (.slice a0 len0 cap0) z0 len0) :
    Calls Try.prog 4 #[.slice a0 len0 cap0, .agg #[.int .i64 m1, .int .i64 n1], .agg #[.int .i64 m2, .int .i64 n2]] w fun e w' => e = .returned (.bool true) ∧ Below w.heap.size w w' := by
  obtain ⟨hc1, hc2⟩ := h0.caps
  by_cases hn : len0 ≤ 1048576
  · have h1 : (len0 : Int) ≤ 1048576 := by omega
    have hneg : decide ((1048576 : Int) - (len0 : Int) < 0) = false := decide_eq_false (by omega)
    have hneg2 : decide ((1048576 : Int) < (len0 : Int)) = false := decide_eq_false (by omega)
    have b0 := ((Below.refl w.heap.size w).alloc (Nat.le_refl _) (.cells #[.int .i64 m1, .int .i64 n1] 39)).alloc (by simp) (.cells #[.int .i64 m2, .int .i64 n2] 39)
    have V0 := Lib.hid ((h0.sl hn).old b0)
    have B0 := Lib.hid b0
    have r1 := (Row.new w #[.int .i64 m1, .int .i64 n1] 39).old ((Below.refl _ _).alloc (Nat.le_refl _) (.cells #[.int .i64 m2, .int .i64 n2] 39))
    have r2 := Row.new (w.alloc (.cells #[.int .i64 m1, .int .i64 n1] 39)) #[.int .i64 m2, .int .i64 n2] 39
    rw [World.size_alloc] at r2
    have X0 : Hid _ := Lib.hid (show ((w.alloc (.cells #[.int .i64 m1, .int .i64 n1] 39)).alloc (.cells #[.int .i64 m2, .int .i64 n2] 39)).cell? ⟨w.heap.size, 0, none⟩ = some (.int .i64 m1) from by rw [r1.cell]; rfl)
    have X1 : Hid _ := Lib.hid (show ((w.alloc (.cells #[.int .i64 m1, .int .i64 n1] 39)).alloc (.cells #[.int .i64 m2, .int .i64 n2] 39)).cell? ⟨w.heap.size, 1, none⟩ = some (.int .i64 n1) from by rw [r1.cell]; rfl)
    have X2 : Hid _ := Lib.hid (show ((w.alloc (.cells #[.int .i64 m1, .int .i64 n1] 39)).alloc (.cells #[.int .i64 m2, .int .i64 n2] 39)).cell? ⟨w.heap.size + 1, 0, none⟩ = some (.int .i64 m2) from by rw [r2.cell]; rfl)
    have X3 : Hid _ := Lib.hid (show ((w.alloc (.cells #[.int .i64 m1, .int .i64 n1] 39)).alloc (.cells #[.int .i64 m2, .int .i64 n2] 39)).cell? ⟨w.heap.size + 1, 1, none⟩ = some (.int .i64 n2) from by rw [r2.cell]; rfl)
    clear b0 r1 r2 hc1 hc2 h0
    go_enter Try.func4, Try.ntmps4
    go_wp2_with fail
    refine (szSectionS_ok len0 _ _ _ _ (by omega) h1).mono ?_
    rintro e _ ⟨rfl, rfl⟩
    go_upto_region 5 with (fail)
    revert V0 B0 X0 X1 X2 X3
    generalize ((w.alloc (.cells #[.int .i64 m1, .int .i64 n1] 39)).alloc (.cells #[.int .i64 m2, .int .i64 n2] 39)) = W
    intro V0 B0 X0 X1 X2 X3
    have S0 := Lib.hid (And.intro X0.out (And.intro X1.out (And.intro X2.out (And.intro X3.out (below_drewN (Below.refl W.heap.size W) 1)))))
    go_cut [8] from 16 (fun v wc => v = .bool (lessB z0 len0 m1 n1 m2 n2) ∧ Below W.heap.size W wc)
    case first =>
      go_region_held3 (fun w' => w'.cell? ⟨w.heap.size, 0, none⟩ = some (.int .i64 m1) ∧ w'.cell? ⟨w.heap.size, 1, none⟩ = some (.int .i64 n1) ∧ w'.cell? ⟨w.heap.size + 1, 0, none⟩ = some (.int .i64 m2) ∧ w'.cell? ⟨w.heap.size + 1, 1, none⟩ = some (.int .i64 n2) ∧ Below W.heap.size W w')
        (first | assumption | exact S0.out | exact keep4 (by assumption) (by assumption))
        (first | (go_at_call 19; refine (toSectionS_any _ z0 len0 _ _ (V0.out.old (by simp only [*]))).mono ?_; rintro e wA ⟨vA, rfl, bA, rA⟩; replace rA := Lib.hid rA.sl) | (go_at_call 28; refine (toFault_any _ _ _).mono ?_; rintro e wB ⟨rfl, bB⟩; try (replace rA := Lib.hid (rA.out.old bB))) | (go_at_call 27; refine (specFaultLess_b _ _ _ _ _ z0 len0 _ _ rA.out).mono ?_; rintro e wC ⟨rfl, bC⟩))
      all_goals
        go_wp2
        go_meet
        case rel => exact ⟨rfl, (show _ ∧ _ ∧ _ ∧ _ ∧ Below W.heap.size W wC from by assumption).2.2.2.2⟩
    case rest =>
      obtain ⟨rfl, hb⟩ := hcut
      have B1 := Lib.hid (nextW B0.out hb)
      have V1 := Lib.hid (V0.out.old hb)
      have Y0 := Lib.hid (cellB X0.out hb)
      have Y1 := Lib.hid (cellB X1.out hb)
      have Y2 := Lib.hid (cellB X2.out hb)
      have Y3 := Lib.hid (cellB X3.out hb)
      clear hb S0 X0 X1 X2 X3 V0 B0
      go_wp2_with fail
      refine (toSectionS_any _ z0 len0 _ _ V1.out).mono ?_
      rintro e w2 ⟨v2, rfl, b2, r2⟩
      have B2 := Lib.hid (nextW B1.out b2)
      have V2 := Lib.hid (V1.out.old b2)
      have R2 := Lib.hid r2.sl
      have Z0 := Lib.hid (cellB Y0.out b2)
      have Z1 := Lib.hid (cellB Y1.out b2)
      have Z2 := Lib.hid (cellB Y2.out b2)
      have Z3 := Lib.hid (cellB Y3.out b2)
      clear b2 r2 Y0 Y1 Y2 Y3 B1 V1
      have S2 := Lib.hid (And.intro Z0.out (And.intro Z1.out (And.intro Z2.out (And.intro Z3.out (below_drewN (Below.refl w2.heap.size w2) 1)))))
      go_upto_region 7 with (fail)
      go_cut [10] from 25 (fun v wc => v = .bool (lessB z0 len0 m1 n1 m2 n2) ∧ Below w2.heap.size w2 wc)
      case first =>
        go_region_held3 (fun w' => w'.cell? ⟨w.heap.size, 0, none⟩ = some (.int .i64 m1) ∧ w'.cell? ⟨w.heap.size, 1, none⟩ = some (.int .i64 n1) ∧ w'.cell? ⟨w.heap.size + 1, 0, none⟩ = some (.int .i64 m2) ∧ w'.cell? ⟨w.heap.size + 1, 1, none⟩ = some (.int .i64 n2) ∧ Below w2.heap.size w2 w')
          (first | assumption | exact S2.out | exact keep4 (by assumption) (by assumption))
          (first | (go_at_call 28; refine (toFault_any _ _ _).mono ?_; rintro e wB ⟨rfl, bB⟩) | (go_at_call 29; refine (implFaultLess_b _ _ _ _ _ z0 len0 _ _ (R2.out.old (by simp only [*]))).mono ?_; rintro e wC ⟨rfl, bC⟩))
        all_goals
          go_wp2
          go_meet
          case rel => exact ⟨rfl, (show _ ∧ _ ∧ _ ∧ _ ∧ Below w2.heap.size w2 wC from by assumption).2.2.2.2⟩
      case rest =>
        obtain ⟨rfl, hb⟩ := hcut
        have B3 := Lib.hid (nextW B2.out hb)
        have V3 := Lib.hid (V2.out.old hb)
        have R3 := Lib.hid (R2.out.old hb)
        clear hb S2 Z0 Z1 Z2 Z3 B2 V2 R2
        have hne : ∀ b : Bool, (b != b) = false := by simp
        have hne2 := hne (lessB z0 len0 m1 n1 m2 n2)
        clear hne
        go_wp2_with fail
        refine (toSectionS_any _ z0 len0 _ _ V3.out).mono ?_
        rintro e w4 ⟨v4, rfl, b4, r4⟩
        have B4 := Lib.hid (nextW B3.out b4)
        have R4 := Lib.hid (R3.out.old b4)
        have Q4 := Lib.hid r4.sl
        clear b4 r4
        go_wp2_with fail
        refine (eqSectionS_is (r := true) _ _ z0 z0 len0 len0 _ _ _ R4.out Q4.out (by simp)).mono ?_
        rintro e w5 ⟨rfl, b5⟩
        have B5 := Lib.hid (nextW B4.out b5)
        clear b5
        go_wp2
        go_ret
        exact ⟨rfl, B5.out⟩
  · have h1 : ¬ (len0 : Int) ≤ 1048576 := by omega
    go_enter Try.func4, Try.ntmps4
    go_wp2_with fail
    refine (szSectionS_no len0 _ _ _ hc1 hc2 1048576 (by omega) (by omega) (by omega)).mono ?_
    rintro e _ ⟨rfl, rfl⟩
    go_wp2
    go_ret
    exact ⟨rfl, ((Below.refl _ w).alloc (Nat.le_refl _) _).alloc (by simp) _⟩

set_option maxRecDepth 100000 in
theorem lifted (os : Os) (started : os.Started) (H : Type) (enc : TypeId × Value → H) :
    ReturnsInHanded {} Try.checked os 4 .any (Rows.fnExactFaultLessSpec.pre6 enc Try.prog Try.f4 Rows.fnExactFaultLessRow.domain false) (Rows.fnExactFaultLessSpec.post enc Try.prog Try.f4 false true false false) := by
  refine returnsInHanded_of_change (C := Try.checked) own started (by kernel_rfl) Try.func4
    (ChangeSpec.witness6 (enc := enc) (C := Try.checked) false ⟨#[], #[.slice none 0 0, .agg #[.int .i64 0, .int .i64 0], .agg #[.int .i64 0, .int .i64 0]], []⟩ 8 (by kernel_rfl) (by kernel_rfl) (by kernel_rfl) (by kernel_rfl)) ?_
  intro W base args ds gs before hval0 hW hcnd _
  have hval : ∀ (j : Nat) t v, Try.f4.params[j]? = some t → args[j]? = some v → Value.okWide Try.prog W .any base t v := hval0
  have hW' := hW
  obtain ⟨p, q, hA0, hV, rfl, hfz, hnd⟩ := hW
  have hA : DataW.TrodAll enc Try.prog W 0 (fun _ => true) true Try.f4.params.toList args.toList ds p := hA0
  rw [Try.params4] at hA hval
  obtain ⟨v0, vs0, d0, ds0, p0, q0, hargs, rfl, rfl, h0, r0⟩ := trodAll_cons hA
  obtain ⟨v1, vs1, d1, ds1, p1, q1, rfl, rfl, rfl, h1, r1⟩ := trodAll_cons r0
  obtain ⟨v2, vs2, d2, ds2, p2, q2, rfl, rfl, rfl, h2, r2⟩ := trodAll_cons r1
  obtain ⟨rfl, rfl, rfl⟩ := trodAll_nil r2
  obtain rfl : args = #[v0, v1, v2] := by cases args; simp_all
  obtain ⟨rfl, rfl⟩ := trodVars_none hV
  obtain ⟨a0, len0, cap0, rfl⟩ := okWide_slice Try.underlying22 (hval 0 22 v0 rfl rfl)
  have k0 := h0
  have lt0 : ∀ x ∈ p0, x.block < W.heap.size := by obtain ⟨m, hm⟩ := k0; exact DataW.trod_lt m _ _ _ hm
  obtain ⟨z0, w0⟩ := slF0_of (s := 3) Try.underlying22 Try.underlying78 (by kernel_rfl) (by kernel_rfl) rfl (by omega) (flds3 Try.underlying3 Try.underlying3 Try.underlying3) h0
  obtain ⟨m1, n1, rfl⟩ := agg2_of Try.underlying39 (by kernel_rfl) (by kernel_rfl) Try.underlying3 Try.underlying3 (hval 1 39 v1 rfl rfl) h1
  have k1 := h1
  have lt1 : ∀ x ∈ p1, x.block < W.heap.size := by obtain ⟨m, hm⟩ := k1; exact DataW.trod_lt m _ _ _ hm
  obtain ⟨m2, n2, rfl⟩ := agg2_of Try.underlying39 (by kernel_rfl) (by kernel_rfl) Try.underlying3 Try.underlying3 (hval 2 39 v2 rfl rfl) h2
  have k2 := h2
  have lt2 : ∀ x ∈ p2, x.block < W.heap.size := by obtain ⟨m, hm⟩ := k2; exact DataW.trod_lt m _ _ _ hm
  clear hA0 hval0
  refine (walk a0 len0 cap0 z0 m1 n1 m2 n2 W w0).mono fun e W' ⟨he, bel⟩ => ?_
  subst he
  exact ⟨_, rfl, _, _, _, [], _, [], hW', trodAll_mk1 (shut_bool Try.underlying4 _), (trodAll_cons_mk (Below.trod laidOut (by kernel_rfl) (of_decide_eq_true (by kernel_rfl)) k0 bel lt0) (trodAll_cons_mk (Below.trod laidOut (by kernel_rfl) (of_decide_eq_true (by kernel_rfl)) k1 bel lt1) (trodAll_cons_mk (Below.trod laidOut (by kernel_rfl) (of_decide_eq_true (by kernel_rfl)) k2 bel lt2) trodAll_mk0))), rfl, bel.frame _, fun h => by cases h⟩

theorem over : Rows.fnExactFaultLessRow.holds Try.pinned (OpenSpec.ofChange Rows.fnExactFaultLessSpec) :=
  OpenClaim.holds_of_wide 4 Try.f4 rfl rfl rfl rfl rfl rfl rfl ⟨rfl, rfl, rfl, rfl, rfl⟩ rfl rfl rfl rfl rfl (by kernel_rfl) Try.func4 (facts_of signs (by kernel_rfl))
    (of_decide_eq_true (by kernel_rfl)) (by unfold Func.isWrapper; first | (rw [if_pos (by decide +kernel)]; kernel_rfl) | (rw [if_neg (by decide +kernel)]; exact ⟨rfl, rfl⟩))
    (fun os started H enc _ => lifted os started H enc)

theorem proved : Rows.FnExactFaultLessSaid := over
#print axioms proved

end Go.Proofs.Ytoanefccnbnkmaa.fnExactFaultLess
