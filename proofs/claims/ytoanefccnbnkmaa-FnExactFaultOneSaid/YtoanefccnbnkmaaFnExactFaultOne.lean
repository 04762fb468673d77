/- For all arguments, the program's FaultOne returns what the reference's returns, and the arguments read afterwards as they read before. No condition. -/
import Derived.Test.YtoanefccnbnkmaaLawF
import Derived.Test.YtoanefccnbnkmaaIf
import Derived.Test.YtoanefccnbnkmaaFlatSection
import Derived.Test.YtoanefccnbnkmaaFlatFault
namespace Go.Proofs.Ytoanefccnbnkmaa.fnExactFaultOne
open Go.ChangeShapes Go.WideShapes Go.ChangeAt Go.RowKit
set_option linter.unusedVariables false

set_option maxRecDepth 100000 in
set_option maxHeartbeats 2000000 in
theorem walk (a0 : Option Addr) (len0 cap0 : Nat) (z0 : List Int) (a : Int) (w : World) (h0 : SlF0 3 w (.slice a0 len0 cap0) z0 len0) (ha : -9223372036854775808 ≤ a ∧ a ≤ 9223372036854775807) :
    Calls Try.prog 12 #[.slice a0 len0 cap0, .int .i64 a] w fun e w' => e = .returned (.bool true) ∧ Below w.heap.size w w' := by
  obtain ⟨hc1, hc2⟩ := h0.caps
  by_cases hn : len0 ≤ 1048576
  · have h1 : (len0 : Int) ≤ 1048576 := by omega
    have hneg : decide ((1048576 : Int) - (len0 : Int) < 0) = false := decide_eq_false (by omega)
    have hneg2 : decide ((1048576 : Int) < (len0 : Int)) = false := decide_eq_false (by omega)
    have B := Below.refl w.heap.size w
    have hv0 := h0.sl hn
    clear h0
    have hm1 : decide (1 + (len0 : Int) * 3 < 0) = false := decide_eq_false (by omega)
    go_enter Try.func12, Try.ntmps12
    go_wp2_with fail
    refine (szSectionS_ok len0 _ _ _ _ (by omega) h1).mono ?_
    rintro e _ ⟨rfl, rfl⟩
    go_wp2_with fail
    refine (toSectionS_any _ z0 len0 _ _ hv0).mono ?_
    rintro e w1 ⟨v1, rfl, b1, r1⟩
    replace B := nextW B b1
    replace hv0 := hv0.old b1
    have s1 := b1.size
    clear b1
    go_wp2_with fail
    refine (specFaultOne_b v1 a z0 len0 _ _ r1.sl).mono ?_
    rintro e w2 ⟨v2, c2, rfl, b2, r2⟩
    replace B := nextW B b2
    replace hv0 := hv0.old b2
    replace r1 := r1.old b2
    have s2 := b2.size
    clear b2
    have l2 := r2.len.2
    clear r1
    go_wp2_with fail
    refine (toSectionS_any _ z0 len0 _ _ hv0).mono ?_
    rintro e w3 ⟨v3, rfl, b3, r3⟩
    replace B := nextW B b3
    replace hv0 := hv0.old b3
    replace r2 := r2.old b3
    have s3 := b3.size
    clear b3
    go_wp2_with fail
    refine (implFaultOne_b v3 a z0 len0 _ _ r3.sl ha).mono ?_
    rintro e w4 ⟨v4, c4, rfl, b4, r4⟩
    replace B := nextW B b4
    replace hv0 := hv0.old b4
    replace r2 := r2.old b4
    replace r3 := r3.old b4
    have s4 := b4.size
    clear b4
    have l4 := r4.len.2
    have hne : ∀ b : Bool, (b != b) = false := by simp
    have hne2 := hne (oneOk z0 len0 a)
    clear hne
    go_wp2_with fail
    refine (eqFaultS_is (r := true) _ _ _ _ _ _ _ _ _ r4.sl r2.sl (by simp)).mono ?_
    rintro e w5 ⟨rfl, b5⟩
    replace B := nextW B b5
    replace hv0 := hv0.old b5
    replace r2 := r2.old b5
    replace r3 := r3.old b5
    replace r4 := r4.old b5
    have s5 := b5.size
    clear b5
    go_wp2_with fail
    refine (toSectionS_any _ z0 len0 _ _ hv0).mono ?_
    rintro e w6 ⟨v6, rfl, b6, r6⟩
    replace B := nextW B b6
    replace hv0 := hv0.old b6
    replace r2 := r2.old b6
    replace r3 := r3.old b6
    replace r4 := r4.old b6
    have s6 := b6.size
    clear b6
    go_wp2_with fail
    refine (eqSectionS_is (r := true) _ _ _ _ _ _ _ _ _ r3.sl r6.sl (by simp)).mono ?_
    rintro e w7 ⟨rfl, b7⟩
    replace B := nextW B b7
    replace hv0 := hv0.old b7
    replace r2 := r2.old b7
    replace r3 := r3.old b7
    replace r4 := r4.old b7
    replace r6 := r6.old b7
    have s7 := b7.size
    clear b7
    clear r6
    go_wp2_with fail
    refine (markSectionS_any _ _ len0 1 _ _ _ r3 (by omega) (by omega)).mono ?_
    rintro e w8 ⟨rfl, o8, m8⟩
    replace B := B.trans (o8.below (by omega) B.size)
    replace hv0 := hv0.out o8 (by omega)
    replace r2 := r2.out o8 (by omega)
    replace r4 := r4.out o8 (by omega)
    have s8 := o8.size
    clear r3 o8
    clear m8
    go_wp2_with fail
    refine (eqFaultS_is (r := true) _ _ _ _ _ _ _ _ _ r4.sl r2.sl (by simp)).mono ?_
    rintro e w9 ⟨rfl, b9⟩
    replace B := nextW B b9
    replace hv0 := hv0.old b9
    replace r2 := r2.old b9
    replace r4 := r4.old b9
    have s9 := b9.size
    clear b9
    have hm2 : decide (1 + (c4 : Int) * 2 < 0) = false := decide_eq_false (by omega)
    go_wp2_with fail
    refine (markFaultS_any _ _ c4 1 _ _ _ r4 (by omega) (by omega)).mono ?_
    rintro e w10 ⟨rfl, o10, m10⟩
    replace B := B.trans (o10.below (by omega) B.size)
    replace hv0 := hv0.out o10 (by omega)
    replace r2 := r2.out o10 (by omega)
    have s10 := o10.size
    clear r4 o10
    go_wp2_with fail
    refine (heldFaultS_any _ c4 1 _ _ m10.sl (by omega) (by omega)).mono ?_
    rintro e _ ⟨rfl, rfl⟩
    go_wp2_with fail
    refine (toSectionS_any _ z0 len0 _ _ hv0).mono ?_
    rintro e w12 ⟨v12, rfl, b12, r12⟩
    replace B := nextW B b12
    replace hv0 := hv0.old b12
    replace r2 := r2.old b12
    replace m10 := m10.old b12
    have s12 := b12.size
    clear b12
    go_wp2_with fail
    refine (implFaultOne_b v12 a z0 len0 _ _ r12.sl ha).mono ?_
    rintro e w13 ⟨v13, c13, rfl, b13, r13⟩
    replace B := nextW B b13
    replace hv0 := hv0.old b13
    replace r2 := r2.old b13
    replace m10 := m10.old b13
    replace r12 := r12.old b13
    have s13 := b13.size
    clear b13
    have l13 := r13.len.2
    clear r12
    go_wp2_with fail
    refine (eqFaultS_is (r := true) _ _ _ _ _ _ _ _ _ r13.sl r2.sl (by simp)).mono ?_
    rintro e w14 ⟨rfl, b14⟩
    replace B := nextW B b14
    replace hv0 := hv0.old b14
    replace r2 := r2.old b14
    replace m10 := m10.old b14
    replace r13 := r13.old b14
    have s14 := b14.size
    clear b14
    go_wp2_with fail
    refine (heldFaultS_any _ c4 1 _ _ m10.sl (by omega) (by omega)).mono ?_
    rintro e _ ⟨rfl, rfl⟩
    go_wp2
    go_ret
    exact ⟨rfl, B⟩
  · have h1 : ¬ (len0 : Int) ≤ 1048576 := by omega
    go_enter Try.func12, Try.ntmps12
    go_wp2_with fail
    refine (szSectionS_no len0 _ _ _ hc1 hc2 1048576 (by omega) (by omega) (by omega)).mono ?_
    rintro e _ ⟨rfl, rfl⟩
    go_wp2
    go_ret
    exact ⟨rfl, Below.refl _ w⟩

set_option maxRecDepth 100000 in
theorem lifted (os : Os) (started : os.Started) (H : Type) (enc : TypeId × Value → H) :
    ReturnsInHanded {} Try.checked os 12 .any (Rows.fnExactFaultOneSpec.pre6 enc Try.prog Try.f12 Rows.fnExactFaultOneRow.domain false) (Rows.fnExactFaultOneSpec.post enc Try.prog Try.f12 false true false false) := by
  refine returnsInHanded_of_change (C := Try.checked) own started (by kernel_rfl) Try.func12
    (ChangeSpec.witness6 (enc := enc) (C := Try.checked) false ⟨#[], #[.slice none 0 0, .int .i64 0], []⟩ 8 (by kernel_rfl) (by kernel_rfl) (by kernel_rfl) (by kernel_rfl)) ?_
  intro W base args ds gs before hval0 hW hcnd _
  have hval : ∀ (j : Nat) t v, Try.f12.params[j]? = some t → args[j]? = some v → Value.okWide Try.prog W .any base t v := hval0
  have hW' := hW
  obtain ⟨p, q, hA0, hV, rfl, hfz, hnd⟩ := hW
  have hA : DataW.TrodAll enc Try.prog W 0 (fun _ => true) true Try.f12.params.toList args.toList ds p := hA0
  rw [Try.params12] at hA hval
  obtain ⟨v0, vs0, d0, ds0, p0, q0, hargs, rfl, rfl, h0, r0⟩ := trodAll_cons hA
  obtain ⟨v1, vs1, d1, ds1, p1, q1, rfl, rfl, rfl, h1, r1⟩ := trodAll_cons r0
  obtain ⟨rfl, rfl, rfl⟩ := trodAll_nil r1
  obtain rfl : args = #[v0, v1] := by cases args; simp_all
  obtain ⟨rfl, rfl⟩ := trodVars_none hV
  obtain ⟨a0, len0, cap0, rfl⟩ := okWide_slice Try.underlying22 (hval 0 22 v0 rfl rfl)
  have k0 := h0
  have lt0 : ∀ x ∈ p0, x.block < W.heap.size := by obtain ⟨m, hm⟩ := k0; exact DataW.trod_lt m _ _ _ hm
  obtain ⟨z0, w0⟩ := slF0_of (s := 3) Try.underlying22 Try.underlying78 (by kernel_rfl) (by kernel_rfl) rfl (by omega) (flds3 Try.underlying3 Try.underlying3 Try.underlying3) h0
  obtain ⟨a1, rfl, rfl, rfl, w1⟩ := open_int Try.underlying3 (hval 1 3 v1 rfl rfl) h1
  have b1 : -9223372036854775808 ≤ a1 ∧ a1 ≤ 9223372036854775807 := by simpa [Lit.wf, IntKind.min, IntKind.max, IntKind.signed, IntKind.bits] using w1
  clear hA0 hval0
  refine (walk a0 len0 cap0 z0 a1 W w0 b1).mono fun e W' ⟨he, bel⟩ => ?_
  subst he
  exact ⟨_, rfl, _, _, _, [], _, [], hW', trodAll_mk1 (shut_bool Try.underlying4 _), (trodAll_cons_mk (Below.trod laidOut (by kernel_rfl) (of_decide_eq_true (by kernel_rfl)) k0 bel lt0) (trodAll_cons_mk (shut_int Try.underlying3 w1) trodAll_mk0)), rfl, bel.frame _, fun h => by cases h⟩

theorem over : Rows.fnExactFaultOneRow.holds Try.pinned (OpenSpec.ofChange Rows.fnExactFaultOneSpec) :=
  OpenClaim.holds_of_wide 12 Try.f12 rfl rfl rfl rfl rfl rfl rfl ⟨rfl, rfl, rfl, rfl, rfl⟩ rfl rfl rfl rfl rfl (by kernel_rfl) Try.func12 (facts_of signs (by kernel_rfl))
    (of_decide_eq_true (by kernel_rfl)) (by unfold Func.isWrapper; first | (rw [if_pos (by decide +kernel)]; kernel_rfl) | (rw [if_neg (by decide +kernel)]; exact ⟨rfl, rfl⟩))
    (fun os started H enc _ => lifted os started H enc)

theorem proved : Rows.FnExactFaultOneSaid := over
#print axioms proved

end Go.Proofs.Ytoanefccnbnkmaa.fnExactFaultOne
