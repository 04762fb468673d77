/- For all arguments, the program's FaultFind returns what the reference's returns, and the arguments read afterwards as they read before. No condition. -/
import Derived.Test.YtoanefccnbnkmaaLawF
import Derived.Test.YtoanefccnbnkmaaFind
import Derived.Test.YtoanefccnbnkmaaFlatSection
import Derived.Test.YtoanefccnbnkmaaFlatFault
namespace Go.Proofs.Ytoanefccnbnkmaa.fnExactFaultFind
open Go.ChangeShapes Go.WideShapes Go.ChangeAt Go.RowKit
set_option linter.unusedVariables false

set_option maxRecDepth 100000 in
set_option maxHeartbeats 2000000 in
theorem walk (a0 : Option Addr) (len0 cap0 : Nat) (z0 : List Int) (a b : Int) (w : World) (h0 : SlF0 3 w (.slice a0 len0 cap0) z0 len0) (hA : -9223372036854775808 ≤ a ∧ a ≤ 9223372036854775807) (hB : -9223372036854775808 ≤ b ∧ b ≤ 9223372036854775807) :
    Calls Try.prog 5 #[.slice a0 len0 cap0, .int .i64 a, .int .i64 b] w fun e w' => e = .returned (.bool true) ∧ Below w.heap.size w w' := by
  obtain ⟨hc1, hc2⟩ := h0.caps
  by_cases hn : len0 ≤ 1048576
  · have h1 : (len0 : Int) ≤ 1048576 := by omega
    have hneg : decide ((1048576 : Int) - (len0 : Int) < 0) = false := decide_eq_false (by omega)
    have hneg2 : decide ((1048576 : Int) < (len0 : Int)) = false := decide_eq_false (by omega)
    have V0 := Lib.hid (h0.sl hn)
    have HA := Lib.hid hA
    clear hc1 hc2 h0 hA hB
    go_enter Try.func5, Try.ntmps5
    go_wp2_with fail
    refine (szSectionS_ok len0 _ _ _ _ (by omega) h1).mono ?_
    rintro e _ ⟨rfl, rfl⟩
    go_wp2_with fail
    refine (toSectionS_any _ z0 len0 _ _ V0.out).mono ?_
    rintro e w1 ⟨v1, rfl, b1, r1⟩
    have B1 := Lib.hid b1
    have V1 := Lib.hid (V0.out.old b1)
    have R1 := Lib.hid r1.sl
    clear b1 r1
    go_wp2_with fail
    refine (specFaultFind_b _ a b z0 len0 _ _ R1.out).mono ?_
    rintro e w2 ⟨rfl, b2⟩
    obtain ⟨M, hM⟩ : ∃ M, ffM z0 len0 a b = M := ⟨_, rfl⟩
    obtain ⟨O, hO⟩ : ∃ O, ffO z0 len0 a b = O := ⟨_, rfl⟩
    obtain ⟨F, hF⟩ : ∃ F, ffB z0 len0 a b = F := ⟨_, rfl⟩
    rw [hM, hO, hF]
    have HM := Lib.hid hM
    have HO := Lib.hid hO
    have HF := Lib.hid hF
    clear hM hO hF
    obtain ⟨x0, x1, x2⟩ := box2 w2 M O 41
    have B2 := Lib.hid (nextW (nextW B1.out b2) x0)
    have V2 := Lib.hid ((V1.out.old b2).old x0)
    have X1 := Lib.hid x1
    have X2 := Lib.hid x2
    clear b2 x0 x1 x2 B1 V1 R1 V0
    go_wp2_with fail
    refine (toSectionS_any _ z0 len0 _ _ V2.out).mono ?_
    rintro e w3 ⟨v3, rfl, b3, r3⟩
    have B3 := Lib.hid (nextW B2.out b3)
    have V3 := Lib.hid (V2.out.old b3)
    have R3 := Lib.hid r3.sl
    have Y1 := Lib.hid (cellB X1.out b3)
    have Y2 := Lib.hid (cellB X2.out b3)
    clear b3 r3 B2 V2 X1 X2
    go_wp2_with fail
    refine (implFaultFind_b _ a b z0 len0 _ _ R3.out HA.out).mono ?_
    rintro e w4 ⟨rfl, b4⟩
    rw [HM.out, HO.out, HF.out]
    obtain ⟨x0, x1, x2⟩ := box2 w4 M O 41
    have B4 := Lib.hid (nextW (nextW B3.out b4) x0)
    have V4 := Lib.hid ((V3.out.old b4).old x0)
    have R4 := Lib.hid ((R3.out.old b4).old x0)
    have c1 := cellB (cellB Y1.out b4) x0
    have c2 := cellB (cellB Y2.out b4) x0
    clear b4 x0 B3 V3 R3 Y1 Y2
    have hne : ∀ b : Bool, (b != b) = false := by simp
    have hne2 := hne F
    clear hne
    go_wp2_with fail
    refine (eqFault_is (r := true) M O M O _ (by simp)).mono ?_
    rintro e w5 ⟨rfl, b5⟩
    have B5 := Lib.hid (nextW B4.out b5)
    have V5 := Lib.hid (V4.out.old b5)
    have R5 := Lib.hid (R4.out.old b5)
    clear b5 c1 c2 x1 x2 B4 V4 R4
    go_wp2_with fail
    refine (toSectionS_any _ z0 len0 _ _ V5.out).mono ?_
    rintro e w6 ⟨v6, rfl, b6, r6⟩
    have B6 := Lib.hid (nextW B5.out b6)
    have R6 := Lib.hid (R5.out.old b6)
    have Q6 := Lib.hid r6.sl
    clear b6 r6
    go_wp2_with fail
    refine (eqSectionS_is (r := true) _ _ z0 z0 len0 len0 _ _ _ R6.out Q6.out (by simp)).mono ?_
    rintro e w7 ⟨rfl, b7⟩
    have B7 := Lib.hid (nextW B6.out b7)
    clear b7
    go_wp2
    go_ret
    exact ⟨rfl, B7.out⟩
  · have h1 : ¬ (len0 : Int) ≤ 1048576 := by omega
    go_enter Try.func5, Try.ntmps5
    go_wp2_with fail
    refine (szSectionS_no len0 _ _ _ hc1 hc2 1048576 (by omega) (by omega) (by omega)).mono ?_
    rintro e _ ⟨rfl, rfl⟩
    go_wp2
    go_ret
    exact ⟨rfl, Below.refl _ w⟩

set_option maxRecDepth 100000 in
theorem lifted (os : Os) (started : os.Started) (H : Type) (enc : TypeId × Value → H) :
    ReturnsInHanded {} Try.checked os 5 .any (Rows.fnExactFaultFindSpec.pre6 enc Try.prog Try.f5 Rows.fnExactFaultFindRow.domain false) (Rows.fnExactFaultFindSpec.post enc Try.prog Try.f5 false true false false) := by
  refine returnsInHanded_of_change (C := Try.checked) own started (by kernel_rfl) Try.func5
    (ChangeSpec.witness6 (enc := enc) (C := Try.checked) false ⟨#[], #[.slice none 0 0, .int .i64 0, .int .i64 0], []⟩ 8 (by kernel_rfl) (by kernel_rfl) (by kernel_rfl) (by kernel_rfl)) ?_
  intro W base args ds gs before hval0 hW hcnd _
  have hval : ∀ (j : Nat) t v, Try.f5.params[j]? = some t → args[j]? = some v → Value.okWide Try.prog W .any base t v := hval0
  have hW' := hW
  obtain ⟨p, q, hA0, hV, rfl, hfz, hnd⟩ := hW
  have hA : DataW.TrodAll enc Try.prog W 0 (fun _ => true) true Try.f5.params.toList args.toList ds p := hA0
  rw [Try.params5] at hA hval
  obtain ⟨v0, vs0, d0, ds0, p0, q0, hargs, rfl, rfl, h0, r0⟩ := trodAll_cons hA
  obtain ⟨v1, vs1, d1, ds1, p1, q1, rfl, rfl, rfl, h1, r1⟩ := trodAll_cons r0
  obtain ⟨v2, vs2, d2, ds2, p2, q2, rfl, rfl, rfl, h2, r2⟩ := trodAll_cons r1
  obtain ⟨rfl, rfl, rfl⟩ := trodAll_nil r2
  obtain rfl : args = #[v0, v1, v2] := by cases args; simp_all
  obtain ⟨rfl, rfl⟩ := trodVars_none hV
  obtain ⟨a0, len0, cap0, rfl⟩ := okWide_slice Try.underlying22 (hval 0 22 v0 rfl rfl)
  have k0 := h0
  have lt0 : ∀ x ∈ p0, x.block < W.heap.size := by obtain ⟨m, hm⟩ := k0; exact DataW.trod_lt m _ _ _ hm
  obtain ⟨z0, w0⟩ := slF0_of (s := 3) Try.underlying22 Try.underlying78 (by kernel_rfl) (by kernel_rfl) rfl (by omega) (flds3 Try.underlying3 Try.underlying3 Try.underlying3) h0
  obtain ⟨a1, rfl, rfl, rfl, w1⟩ := open_int Try.underlying3 (hval 1 3 v1 rfl rfl) h1
  have b1 : -9223372036854775808 ≤ a1 ∧ a1 ≤ 9223372036854775807 := by simpa [Lit.wf, IntKind.min, IntKind.max, IntKind.signed, IntKind.bits] using w1
  obtain ⟨a2, rfl, rfl, rfl, w2⟩ := open_int Try.underlying3 (hval 2 3 v2 rfl rfl) h2
  have b2 : -9223372036854775808 ≤ a2 ∧ a2 ≤ 9223372036854775807 := by simpa [Lit.wf, IntKind.min, IntKind.max, IntKind.signed, IntKind.bits] using w2
  clear hA0 hval0
  refine (walk a0 len0 cap0 z0 a1 a2 W w0 b1 b2).mono fun e W' ⟨he, bel⟩ => ?_
  subst he
  exact ⟨_, rfl, _, _, _, [], _, [], hW', trodAll_mk1 (shut_bool Try.underlying4 _), (trodAll_cons_mk (Below.trod laidOut (by kernel_rfl) (of_decide_eq_true (by kernel_rfl)) k0 bel lt0) (trodAll_cons_mk (shut_int Try.underlying3 w1) (trodAll_cons_mk (shut_int Try.underlying3 w2) trodAll_mk0))), rfl, bel.frame _, fun h => by cases h⟩

theorem over : Rows.fnExactFaultFindRow.holds Try.pinned (OpenSpec.ofChange Rows.fnExactFaultFindSpec) :=
  OpenClaim.holds_of_wide 5 Try.f5 rfl rfl rfl rfl rfl rfl rfl ⟨rfl, rfl, rfl, rfl, rfl⟩ rfl rfl rfl rfl rfl (by kernel_rfl) Try.func5 (facts_of signs (by kernel_rfl))
    (of_decide_eq_true (by kernel_rfl)) (by unfold Func.isWrapper; first | (rw [if_pos (by decide +kernel)]; kernel_rfl) | (rw [if_neg (by decide +kernel)]; exact ⟨rfl, rfl⟩))
    (fun os started H enc _ => lifted os started H enc)

theorem proved : Rows.FnExactFaultFindSaid := over
#print axioms proved

end Go.Proofs.Ytoanefccnbnkmaa.fnExactFaultFind
