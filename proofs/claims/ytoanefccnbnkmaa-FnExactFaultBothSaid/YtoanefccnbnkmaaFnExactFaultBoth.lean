/- For all arguments, the program's FaultBoth returns what the reference's returns, and the arguments read afterwards as they read before. No condition. -/
import Derived.Test.YtoanefccnbnkmaaLawF
import Derived.Test.YtoanefccnbnkmaaBoth
import Derived.Test.YtoanefccnbnkmaaFlatSection
import Derived.Test.YtoanefccnbnkmaaFlatFault
import Derived.Test.YtoanefccnbnkmaaFlatRatio
import Derived.Deep.RegionHeld3
import Derived.Deep.Cut
namespace Go.Proofs.Ytoanefccnbnkmaa.fnExactFaultBoth
open Go.ChangeShapes Go.WideShapes Go.ChangeAt Go.RowKit
set_option linter.unusedVariables false

theorem _root_.Go.Proofs.Ytoanefccnbnkmaa.Row.out {w w' : World} {g lo hi : Nat} {e : TypeId} {cur : Array Value} (h : Row w g e cur) (o : Out lo hi w w') (hd : g < lo ∨ hi ≤ g) : Row w' g e cur := (o.block g h.lt (by omega)).trans h

set_option maxRecDepth 100000 in
set_option maxHeartbeats 4000000 in
theorem walk (a0 : Option Addr) (len0 cap0 : Nat) (z0 : List Int) (a m1 n1 : Int) (w : World) (h0 : SlF0 3 w (.slice a0 len0 cap0) z0 len0) (ha : -9223372036854775808 ≤ a ∧ a ≤ 9223372036854775807) :
    Calls Try.prog 3 #[.slice a0 len0 cap0, .int .i64 a, .agg #[.int .i64 m1, .int .i64 n1]] w fun e w' => e = .returned (.bool true) ∧ Below w.heap.size w w' := by
  obtain ⟨hc1, hc2⟩ := h0.caps
  by_cases hn : len0 ≤ 1048576
  · have h1 : (len0 : Int) ≤ 1048576 := by omega
    have hneg : decide ((1048576 : Int) - (len0 : Int) < 0) = false := decide_eq_false (by omega)
    have hneg2 : decide ((1048576 : Int) < (len0 : Int)) = false := decide_eq_false (by omega)
    have B := (Below.refl w.heap.size w).alloc (Nat.le_refl _) (.cells #[.int .i64 m1, .int .i64 n1] 24)
    have hv0 := (h0.sl hn).old B
    have x0 := Row.new w #[.int .i64 m1, .int .i64 n1] 24
    clear h0
    have hm1 : decide (1 + (len0 : Int) * 3 < 0) = false := decide_eq_false (by omega)
    have hne : ∀ b : Bool, (b != b) = false := by simp
    have hne2 := hne (oneOk z0 len0 a)
    clear hne
    go_enter Try.func3, Try.ntmps3
    go_wp2_with fail
    refine (szSectionS_ok len0 _ _ _ _ (by omega) h1).mono ?_
    rintro e _ ⟨rfl, rfl⟩
    go_upto_region 5 with (fail)
    revert B hv0 x0
    generalize (w.alloc (.cells #[.int .i64 m1, .int .i64 n1] 24)) = W0
    intro B hv0 x0
    have xl := x0.lt
    have y0 : _ = some (Value.int .i64 m1) := x0.cell 0
    have y1 : _ = some (Value.int .i64 n1) := x0.cell 1
    have S0 := Lib.hid (And.intro y0 (And.intro y1 (below_drewN (Below.refl W0.heap.size W0) 1)))
    clear y0 y1
    have V0 := Lib.hid hv0
    go_cut [8, 9] from 23 (fun v o wc => ∃ c : Nat, o = .bool (oneOk z0 len0 a) ∧ Hid (Below W0.heap.size W0 wc) ∧ Hid (WrF 2 41 wc W0.heap.size wc.heap.size v (bothL z0 len0 a m1 n1) c))
    case first =>
      clear x0
      go_region_held3 (fun w' => w'.cell? ⟨w.heap.size, 0, none⟩ = some (.int .i64 m1) ∧ w'.cell? ⟨w.heap.size, 1, none⟩ = some (.int .i64 n1) ∧ Below W0.heap.size W0 w')
        (first | assumption | exact S0.out | exact keep2 (by assumption) (by assumption))
        (first | (go_at_call 19; refine (toSectionS_any _ z0 len0 _ _ (V0.out.old (by simp only [*]))).mono ?_; rintro e wA ⟨vA, rfl, bA, rA⟩; replace rA := Lib.hid rA.sl; have sA := Lib.hid (Nat.le_trans (show _ ∧ _ ∧ Below W0.heap.size W0 _ from by assumption).2.2.size bA.size)) | (go_at_call 20; refine (toRatio_any _ _ _).mono ?_; rintro e wB ⟨rfl, bB⟩; (try (replace rA := Lib.hid (rA.out.old bB))); have sB := Lib.hid (Nat.le_trans (show _ ∧ _ ∧ Below W0.heap.size W0 _ from by assumption).2.2.size bB.size)) | (go_at_call 18; refine (specFaultBoth_b _ a _ _ z0 len0 _ _ rA.out).mono ?_; rintro e wC ⟨vC, cC, rfl, bC, rC⟩; replace rC := Lib.hid rC))
      all_goals
        go_wp2
        go_meet
        case rel => exact ⟨cC, rfl, Lib.hid (show _ ∧ _ ∧ Below W0.heap.size W0 wC from by assumption).2.2, Lib.hid (rC.out.mono (by first | exact sA.out | exact sB.out) (Nat.le_refl _))⟩
    case rest =>
      clear S0 V0
      obtain ⟨c1, rfl, b1, r1⟩ := hcut
      replace b1 := b1.out
      replace r1 := r1.out
      replace B := nextW B b1
      replace hv0 := hv0.old b1
      replace x0 := x0.old b1
      have s1 := b1.size
      clear b1
      have l1 := r1.len.2
      go_wp2_with fail
      refine (toSectionS_any _ z0 len0 _ _ hv0).mono ?_
      rintro e w2 ⟨v2, rfl, b2, r2⟩
      replace B := nextW B b2
      replace hv0 := hv0.old b2
      replace x0 := x0.old b2
      replace r1 := r1.old b2
      have s2 := b2.size
      clear b2
      have y0 : _ = some (Value.int .i64 m1) := x0.cell 0
      have y1 : _ = some (Value.int .i64 n1) := x0.cell 1
      go_wp2_with fail
      refine (toRatio_any _ _ _).mono ?_
      rintro e w3 ⟨rfl, b3⟩
      replace B := nextW B b3
      replace hv0 := hv0.old b3
      replace x0 := x0.old b3
      replace r1 := r1.old b3
      replace r2 := r2.old b3
      have s3 := b3.size
      clear b3
      clear y0 y1
      go_wp2_with fail
      refine (implFaultBoth_b _ a _ _ z0 len0 _ _ r2.sl ha).mono ?_
      rintro e w4 ⟨v4, c4, rfl, b4, r4⟩
      replace B := nextW B b4
      replace hv0 := hv0.old b4
      replace x0 := x0.old b4
      replace r1 := r1.old b4
      replace r2 := r2.old b4
      have s4 := b4.size
      clear b4
      have l4 := r4.len.2
      go_wp2_with fail
      refine (eqFaultS_is (r := true) _ _ _ _ _ _ _ _ _ r4.sl r1.sl (by simp)).mono ?_
      rintro e w5 ⟨rfl, b5⟩
      replace B := nextW B b5
      replace hv0 := hv0.old b5
      replace x0 := x0.old b5
      replace r1 := r1.old b5
      replace r2 := r2.old b5
      replace r4 := r4.old b5
      have s5 := b5.size
      clear b5
      go_wp2_with fail
      refine (toSectionS_any _ z0 len0 _ _ hv0).mono ?_
      rintro e w6 ⟨v6, rfl, b6, r6⟩
      replace B := nextW B b6
      replace hv0 := hv0.old b6
      replace x0 := x0.old b6
      replace r1 := r1.old b6
      replace r2 := r2.old b6
      replace r4 := r4.old b6
      have s6 := b6.size
      clear b6
      go_wp2_with fail
      refine (eqSectionS_is (r := true) _ _ _ _ _ _ _ _ _ r2.sl r6.sl (by simp)).mono ?_
      rintro e w7 ⟨rfl, b7⟩
      replace B := nextW B b7
      replace hv0 := hv0.old b7
      replace x0 := x0.old b7
      replace r1 := r1.old b7
      replace r2 := r2.old b7
      replace r4 := r4.old b7
      replace r6 := r6.old b7
      have s7 := b7.size
      clear b7
      clear r6
      go_wp2_with fail
      refine (markSectionS_any _ _ len0 1 _ _ _ r2 (by omega) (by omega)).mono ?_
      rintro e w8 ⟨rfl, o8, m8⟩
      replace B := B.trans (o8.below (by omega) B.size)
      replace hv0 := hv0.out o8 (by omega)
      replace x0 := x0.out o8 (by omega)
      replace r1 := r1.out o8 (by omega)
      replace r4 := r4.out o8 (by omega)
      have s8 := o8.size
      clear r2 o8
      clear m8
      go_wp2_with fail
      refine (eqFaultS_is (r := true) _ _ _ _ _ _ _ _ _ r4.sl r1.sl (by simp)).mono ?_
      rintro e w9 ⟨rfl, b9⟩
      replace B := nextW B b9
      replace hv0 := hv0.old b9
      replace x0 := x0.old b9
      replace r1 := r1.old b9
      replace r4 := r4.old b9
      have s9 := b9.size
      clear b9
      have hm2 : decide (1 + (c4 : Int) * 2 < 0) = false := decide_eq_false (by omega)
      go_wp2_with fail
      refine (markFaultS_any _ _ c4 1 _ _ _ r4 (by omega) (by omega)).mono ?_
      rintro e w10 ⟨rfl, o10, m10⟩
      replace B := B.trans (o10.below (by omega) B.size)
      replace hv0 := hv0.out o10 (by omega)
      replace x0 := x0.out o10 (by omega)
      replace r1 := r1.out o10 (by omega)
      have s10 := o10.size
      clear r4 o10
      go_wp2_with fail
      refine (heldFaultS_any _ c4 1 _ _ m10.sl (by omega) (by omega)).mono ?_
      rintro e _ ⟨rfl, rfl⟩
      go_upto_region 24 with (fail)
      have y0 : _ = some (Value.int .i64 m1) := x0.cell 0
      have y1 : _ = some (Value.int .i64 n1) := x0.cell 1
      have S0 := Lib.hid (And.intro y0 (And.intro y1 (below_drewN (Below.refl w10.heap.size w10) 1)))
      clear y0 y1
      have V0 := Lib.hid hv0
      go_cut [16, 17] from 83 (fun v o wc => ∃ c : Nat, o = .bool (oneOk z0 len0 a) ∧ Hid (Below w10.heap.size w10 wc) ∧ Hid (WrF 2 41 wc w10.heap.size wc.heap.size v (bothL z0 len0 a m1 n1) c))
      case first =>
        clear x0 r1 m10
        go_region_held3 (fun w' => w'.cell? ⟨w.heap.size, 0, none⟩ = some (.int .i64 m1) ∧ w'.cell? ⟨w.heap.size, 1, none⟩ = some (.int .i64 n1) ∧ Below w10.heap.size w10 w')
          (first | assumption | exact S0.out | exact keep2 (by assumption) (by assumption))
          (first | (go_at_call 19; refine (toSectionS_any _ z0 len0 _ _ (V0.out.old (by simp only [*]))).mono ?_; rintro e wA ⟨vA, rfl, bA, rA⟩; replace rA := Lib.hid rA.sl; have sA := Lib.hid (Nat.le_trans (show _ ∧ _ ∧ Below w10.heap.size w10 _ from by assumption).2.2.size bA.size)) | (go_at_call 20; refine (toRatio_any _ _ _).mono ?_; rintro e wB ⟨rfl, bB⟩; (try (replace rA := Lib.hid (rA.out.old bB))); have sB := Lib.hid (Nat.le_trans (show _ ∧ _ ∧ Below w10.heap.size w10 _ from by assumption).2.2.size bB.size)) | (go_at_call 21; refine (implFaultBoth_b _ a _ _ z0 len0 _ _ rA.out ha).mono ?_; rintro e wC ⟨vC, cC, rfl, bC, rC⟩; replace rC := Lib.hid rC))
        all_goals
          go_wp2
          go_meet
          case rel => exact ⟨cC, rfl, Lib.hid (show _ ∧ _ ∧ Below w10.heap.size w10 wC from by assumption).2.2, Lib.hid (rC.out.mono (by first | exact sA.out | exact sB.out) (Nat.le_refl _))⟩
      case rest =>
        clear S0 V0
        obtain ⟨c12, rfl, b12, r12⟩ := hcut
        replace b12 := b12.out
        replace r12 := r12.out
        replace B := nextW B b12
        replace hv0 := hv0.old b12
        replace x0 := x0.old b12
        replace r1 := r1.old b12
        replace m10 := m10.old b12
        have s12 := b12.size
        clear b12
        have l12 := r12.len.2
        go_wp2_with fail
        refine (eqFaultS_is (r := true) _ _ _ _ _ _ _ _ _ r12.sl r1.sl (by simp)).mono ?_
        rintro e w13 ⟨rfl, b13⟩
        replace B := nextW B b13
        replace hv0 := hv0.old b13
        replace x0 := x0.old b13
        replace r1 := r1.old b13
        replace m10 := m10.old b13
        replace r12 := r12.old b13
        have s13 := b13.size
        clear b13
        go_wp2_with fail
        refine (heldFaultS_any _ c4 1 _ _ m10.sl (by omega) (by omega)).mono ?_
        rintro e _ ⟨rfl, rfl⟩
        go_wp2
        go_ret
        exact ⟨rfl, B⟩
  · have h1 : ¬ (len0 : Int) ≤ 1048576 := by omega
    go_enter Try.func3, Try.ntmps3
    go_wp2_with fail
    refine (szSectionS_no len0 _ _ _ hc1 hc2 1048576 (by omega) (by omega) (by omega)).mono ?_
    rintro e _ ⟨rfl, rfl⟩
    go_wp2
    go_ret
    exact ⟨rfl, (Below.refl _ w).alloc (Nat.le_refl _) _⟩

set_option maxRecDepth 100000 in
theorem lifted (os : Os) (started : os.Started) (H : Type) (enc : TypeId × Value → H) :
    ReturnsInHanded {} Try.checked os 3 .any (Rows.fnExactFaultBothSpec.pre6 enc Try.prog Try.f3 Rows.fnExactFaultBothRow.domain false) (Rows.fnExactFaultBothSpec.post enc Try.prog Try.f3 false true false false) := by
  refine returnsInHanded_of_change (C := Try.checked) own started (by kernel_rfl) Try.func3
    (ChangeSpec.witness6 (enc := enc) (C := Try.checked) false ⟨#[], #[.slice none 0 0, .int .i64 0, .agg #[.int .i64 0, .int .i64 0]], []⟩ 8 (by kernel_rfl) (by kernel_rfl) (by kernel_rfl) (by kernel_rfl)) ?_
  intro W base args ds gs before hval0 hW hcnd _
  have hval : ∀ (j : Nat) t v, Try.f3.params[j]? = some t → args[j]? = some v → Value.okWide Try.prog W .any base t v := hval0
  have hW' := hW
  obtain ⟨p, q, hA0, hV, rfl, hfz, hnd⟩ := hW
  have hA : DataW.TrodAll enc Try.prog W 0 (fun _ => true) true Try.f3.params.toList args.toList ds p := hA0
  rw [Try.params3] at hA hval
  obtain ⟨v0, vs0, d0, ds0, p0, q0, hargs, rfl, rfl, h0, r0⟩ := trodAll_cons hA
  obtain ⟨v1, vs1, d1, ds1, p1, q1, rfl, rfl, rfl, h1, r1⟩ := trodAll_cons r0
  obtain ⟨v2, vs2, d2, ds2, p2, q2, rfl, rfl, rfl, h2, r2⟩ := trodAll_cons r1
  obtain ⟨rfl, rfl, rfl⟩ := trodAll_nil r2
  obtain rfl : args = #[v0, v1, v2] := by cases args; simp_all
  obtain ⟨rfl, rfl⟩ := trodVars_none hV
  obtain ⟨a0, len0, cap0, rfl⟩ := okWide_slice Try.underlying22 (hval 0 22 v0 rfl rfl)
  have k0 := h0
  have lt0 : ∀ x ∈ p0, x.block < W.heap.size := by obtain ⟨m, hm⟩ := k0; exact DataW.trod_lt m _ _ _ hm
  obtain ⟨z0, w0⟩ := slF0_of (s := 3) Try.underlying22 Try.underlying78 (by kernel_rfl) (by kernel_rfl) rfl (by omega) (flds3 Try.underlying3 Try.underlying3 Try.underlying3) h0
  obtain ⟨a1, rfl, rfl, rfl, w1⟩ := open_int Try.underlying3 (hval 1 3 v1 rfl rfl) h1
  have b1 : -9223372036854775808 ≤ a1 ∧ a1 ≤ 9223372036854775807 := by simpa [Lit.wf, IntKind.min, IntKind.max, IntKind.signed, IntKind.bits] using w1
  obtain ⟨m2, n2, rfl⟩ := agg2_of Try.underlying24 (by kernel_rfl) (by kernel_rfl) Try.underlying3 Try.underlying3 (hval 2 24 v2 rfl rfl) h2
  have k2 := h2
  have lt2 : ∀ x ∈ p2, x.block < W.heap.size := by obtain ⟨m, hm⟩ := k2; exact DataW.trod_lt m _ _ _ hm
  clear hA0 hval0
  refine (walk a0 len0 cap0 z0 a1 m2 n2 W w0 b1).mono fun e W' ⟨he, bel⟩ => ?_
  subst he
  exact ⟨_, rfl, _, _, _, [], _, [], hW', trodAll_mk1 (shut_bool Try.underlying4 _), (trodAll_cons_mk (Below.trod laidOut (by kernel_rfl) (of_decide_eq_true (by kernel_rfl)) k0 bel lt0) (trodAll_cons_mk (shut_int Try.underlying3 w1) (trodAll_cons_mk (Below.trod laidOut (by kernel_rfl) (of_decide_eq_true (by kernel_rfl)) k2 bel lt2) trodAll_mk0))), rfl, bel.frame _, fun h => by cases h⟩

theorem over : Rows.fnExactFaultBothRow.holds Try.pinned (OpenSpec.ofChange Rows.fnExactFaultBothSpec) :=
  OpenClaim.holds_of_wide 3 Try.f3 rfl rfl rfl rfl rfl rfl rfl ⟨rfl, rfl, rfl, rfl, rfl⟩ rfl rfl rfl rfl rfl (by kernel_rfl) Try.func3 (facts_of signs (by kernel_rfl))
    (of_decide_eq_true (by kernel_rfl)) (by unfold Func.isWrapper; first | (rw [if_pos (by decide +kernel)]; kernel_rfl) | (rw [if_neg (by decide +kernel)]; exact ⟨rfl, rfl⟩))
    (fun os started H enc _ => lifted os started H enc)

theorem proved : Rows.FnExactFaultBothSaid := over
#print axioms proved

end Go.Proofs.Ytoanefccnbnkmaa.fnExactFaultBoth
