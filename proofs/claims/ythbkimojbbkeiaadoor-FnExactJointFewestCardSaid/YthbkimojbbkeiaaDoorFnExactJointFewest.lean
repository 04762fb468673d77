/- For all arguments, the program's JointFewest returns what the reference's returns, and the arguments read afterwards as they read before. The tables of math/bits read as the program's text lays them. No condition. -/
import Derived.Test.YthbkimojbbkeiaaDoorLawF
import Derived.Test.YthbkimojbbkeiaaDoorFlatSpare
import Derived.Test.YthbkimojbbkeiaaDoorLawJ
import Derived.Test.YthbkimojbbkeiaaDoorJbJ
namespace Go.Proofs.YthbkimojbbkeiaaDoor.fnExactJointFewest
open Go.ChangeShapes Go.WideShapes Go.ChangeAt Go.RowKit
set_option linter.unusedVariables false

set_option maxRecDepth 100000 in
set_option maxHeartbeats 2000000 in
theorem walk (a0 : Option Addr) (len0 cap0 : Nat) (z0 : List Int) (a1 : Int) (a2 : Int) (w : World) (h0 : SlF0 2 w (.slice a0 len0 cap0) z0 len0) (h1 : -9223372036854775808 ≤ a1 ∧ a1 ≤ 9223372036854775807) (h2 : -9223372036854775808 ≤ a2 ∧ a2 ≤ 9223372036854775807) (hT : Tb w) :
    Calls Tryd.prog 5 #[.slice a0 len0 cap0, .int .i64 a1, .int .i64 a2] w fun e w' => e = .returned (.bool true) ∧ Below w.heap.size w w' := by
  obtain ⟨hc0, hd0⟩ := h0.caps
  by_cases hn0 : (len0 : Int) ≤ 1048576
  rotate_left
  · skip
    go_enter Tryd.func5, Tryd.ntmps5
    go_wp2_with fail
    refine (szSpareS_no len0 _ _ _ hc0 hd0 1048576 (by omega) (by omega) (by omega)).mono ?_
    rintro e _ ⟨rfl, rfl⟩
    go_wp2
    go_ret
    exact ⟨rfl, Below.refl _ w⟩
  have hx0 : decide (((1048576 : Int) - (len0 : Int)) < 0) = false := decide_eq_false (by omega)
  have hy0 : decide ((1048576 : Int) < (len0 : Int)) = false := decide_eq_false (by omega)
  have V0 := Lib.hid (h0.sl (by omega))
  have HA1 := Lib.hid h1
  have HA2 := Lib.hid h2
  have B := Lib.hid (Below.refl w.heap.size w)
  have T := Lib.hid hT
  have hw1 := hT.1
  clear hT
  clear h0 h1 h2 hc0 hd0
  go_enter Tryd.func5, Tryd.ntmps5
  go_wp2_with fail
  refine (szSpareS_ok len0 _ _ _ _ (by omega) (by omega)).mono ?_
  rintro e _ ⟨rfl, rfl⟩
  go_wp2_with fail
  refine (toSpareS_any _ z0 len0 _ _ V0.out).mono ?_
  rintro e w1 ⟨r0, rfl, b, r⟩
  replace B := Lib.hid (nextW B.out b)
  replace T := Lib.hid (T.out.old b)
  replace V0 := Lib.hid (V0.out.old b)
  have R0 := Lib.hid r.sl
  clear r
  clear b
  go_wp2_with fail
  refine (specJointFewest_b _ a1 a2 z0 len0 _ _ R0.out).mono ?_
  rintro e w2 ⟨rfl, b⟩
  replace B := Lib.hid (nextW B.out b)
  replace T := Lib.hid (T.out.old b)
  replace V0 := Lib.hid (V0.out.old b)
  replace R0 := Lib.hid (R0.out.old b)
  clear b
  clear R0
  go_wp2_with fail
  refine (toSpareS_any _ z0 len0 _ _ V0.out).mono ?_
  rintro e w3 ⟨x0, rfl, b, r⟩
  replace B := Lib.hid (nextW B.out b)
  replace T := Lib.hid (T.out.old b)
  replace V0 := Lib.hid (V0.out.old b)
  have X0 := Lib.hid r.sl
  clear r
  clear b
  have hne : (jfI z0 len0 a1 a2 != jfI z0 len0 a1 a2) = false := by simp
  go_wp2_with fail
  refine (implJointFewest_b _ a1 a2 z0 len0 _ _ X0.out T.out).mono ?_
  rintro e w4 ⟨rfl, b⟩
  replace B := Lib.hid (nextW B.out b)
  replace T := Lib.hid (T.out.old b)
  replace V0 := Lib.hid (V0.out.old b)
  replace X0 := Lib.hid (X0.out.old b)
  clear b
  go_wp2_with fail
  refine (toSpareS_any _ z0 len0 _ _ V0.out).mono ?_
  rintro e w5 ⟨y0, rfl, b, r⟩
  replace B := Lib.hid (nextW B.out b)
  replace T := Lib.hid (T.out.old b)
  replace V0 := Lib.hid (V0.out.old b)
  replace X0 := Lib.hid (X0.out.old b)
  have Y0 := Lib.hid r.sl
  clear r
  clear b
  go_wp2_with fail
  refine (eqSpareS_is (r := true) _ _ z0 z0 len0 len0 _ _ _ X0.out Y0.out (by simp)).mono ?_
  rintro e w6 ⟨rfl, b⟩
  replace B := Lib.hid (nextW B.out b)
  replace T := Lib.hid (T.out.old b)
  replace V0 := Lib.hid (V0.out.old b)
  replace X0 := Lib.hid (X0.out.old b)
  replace Y0 := Lib.hid (Y0.out.old b)
  clear b
  clear Y0
  go_wp2
  go_ret
  exact ⟨rfl, B.out⟩

set_option maxRecDepth 100000 in
theorem lifted (os : Os) (started : os.Started) (H : Type) (enc : TypeId × Value → H) :
    ReturnsInHanded {} Tryd.checked os 5 .any (fun w args => (Rows.fnExactJointFewestSpec.pre enc Tryd.prog Tryd.f5 [] false w args ∧ laidMetH Tryd.prog laidJ w) ∧ sizedMet enc Tryd.prog Tryd.f5 (OpenSpec.ofChange Rows.fnExactJointFewestSpec) false w args) (Rows.fnExactJointFewestSpec.post enc Tryd.prog Tryd.f5 false true false false) := by
  refine returnsInHanded_of_change_and (C := Tryd.checked) (X := fun w _ => laidMetH Tryd.prog laidJ w) (fun _ _ _ hh h => h.of_heap hh) own started (by kernel_rfl) Tryd.func5
    (ChangeSpec.witness_shaped (enc := enc) (C := Tryd.checked) (os := os) (X := fun w _ => laidMetH Tryd.prog laidJ w) false (World.doorLaid Tryd.prog 19 os) #[.slice none 0 0, .int .i64 0, .int .i64 0] 8 rfl (World.shaped_of_RefB (by kernel_rfl) (by kernel_rfl)) (by kernel_rfl) (by kernel_rfl) (by kernel_rfl) (door_met os _)) ?_
  intro W base args ds gs before hval0 hW _ _ hL _
  have hval : ∀ (j : Nat) t v, Tryd.f5.params[j]? = some t → args[j]? = some v → Value.okWide Tryd.prog W .any base t v := hval0
  have hW' := hW
  obtain ⟨p, q, hA0, hV, rfl, hfz, hnd⟩ := hW
  have hA : DataW.TrodAll enc Tryd.prog W 0 (fun _ => true) true Tryd.f5.params.toList args.toList ds p := hA0
  rw [Tryd.params5] at hA hval
  obtain ⟨v0, vs0, d0, ds0, p0, q0, hargs, rfl, rfl, h0, r0⟩ := trodAll_cons hA
  obtain ⟨v1, vs1, d1, ds1, p1, q1, rfl, rfl, rfl, h1, r1⟩ := trodAll_cons r0
  obtain ⟨v2, vs2, d2, ds2, p2, q2, rfl, rfl, rfl, h2, r2⟩ := trodAll_cons r1
  obtain ⟨rfl, rfl, rfl⟩ := trodAll_nil r2
  obtain rfl : args = #[v0, v1, v2] := by cases args; simp_all
  obtain ⟨rfl, rfl⟩ := trodVars_none hV
  obtain ⟨a0, len0, cap0, rfl⟩ := okWide_slice Tryd.underlying35 (hval 0 35 v0 rfl rfl)
  have k0 := h0
  have lt0 : ∀ x ∈ p0, x.block < W.heap.size := by obtain ⟨m, hm⟩ := k0; exact DataW.trod_lt m _ _ _ hm
  obtain ⟨z0, w0⟩ := slF0_of (s := 2) Tryd.underlying35 Tryd.underlying63 (by kernel_rfl) (by kernel_rfl) rfl (by omega) (flds2 Tryd.underlying3 Tryd.underlying3) h0
  obtain ⟨a1, rfl, rfl, rfl, w1⟩ := open_int Tryd.underlying3 (hval 1 3 v1 rfl rfl) h1
  have b1 : -9223372036854775808 ≤ a1 ∧ a1 ≤ 9223372036854775807 := by simpa [Lit.wf, IntKind.min, IntKind.max, IntKind.signed, IntKind.bits] using w1
  obtain ⟨a2, rfl, rfl, rfl, w2⟩ := open_int Tryd.underlying3 (hval 2 3 v2 rfl rfl) h2
  have b2 : -9223372036854775808 ≤ a2 ∧ a2 ≤ 9223372036854775807 := by simpa [Lit.wf, IntKind.min, IntKind.max, IntKind.signed, IntKind.bits] using w2
  clear hA0 hval0
  refine (walk a0 len0 cap0 z0 a1 a2 W w0 b1 b2 (tb_of hL)).mono fun e W' ⟨he, bel⟩ => ?_
  subst he
  exact ⟨_, rfl, _, _, _, [], _, [], hW', trodAll_mk1 (shut_bool Tryd.underlying4 _), (trodAll_cons_mk (Below.trod laidOut (by kernel_rfl) (of_decide_eq_true (by kernel_rfl)) k0 bel lt0) (trodAll_cons_mk (shut_int Tryd.underlying3 w1) (trodAll_cons_mk (shut_int Tryd.underlying3 w2) trodAll_mk0))), rfl, bel.frame _, fun h => by cases h⟩

theorem over : Rows.fnExactJointFewestRow.holds Tryd.pinned (OpenSpec.ofChange Rows.fnExactJointFewestSpec) :=
  OpenClaim.holds_of_wide 5 Tryd.f5 rfl rfl rfl rfl rfl rfl rfl ⟨rfl, rfl, rfl, rfl, rfl⟩ rfl rfl rfl rfl rfl (by kernel_rfl) Tryd.func5 (facts_of signs (by kernel_rfl))
    (of_decide_eq_true (by kernel_rfl)) (by unfold Func.isWrapper; first | (rw [if_pos (by decide +kernel)]; kernel_rfl) | (rw [if_neg (by decide +kernel)]; exact ⟨rfl, rfl⟩))
    (fun os started H enc _ => lifted os started H enc)

theorem proved : Rows.FnExactJointFewestCardSaid :=
  Claim7.holds_tied_plain_at .later [] [.data, .data] true (true, "63c63b5b0d609edcfb30ebf556ca6689c936c8326ac42e96486b87f7987fc2ce") false
    over (fun _ h => by cases h) (by kernel_rfl) (fun _ h => by cases h) fnExactJointFewest_row_tie rfl ⟨rfl, rfl⟩ (by kernel_rfl) rfl
    (fun f fn hf hfn => by
      obtain rfl : f = 5 := Option.some.inj ((show Tryd.prog.funcNamed "loop.example/cableship/laws.FnExactJointFewest" = some 5 by kernel_rfl).symm.trans hf) |>.symm
      obtain rfl : fn = Tryd.f5 := (Option.some.inj (Tryd.func5.symm.trans hfn)).symm
      exact ⟨by kernel_rfl, fun j t ht => by
        rw [Tryd.params5] at ht
        have hm : t ∈ [35, 3, 3] := by simpa using Array.mem_of_getElem? ht
        have hall : ([35, 3, 3].all fun u => !Tryd.prog.wantsStandIn u) = true := by kernel_rfl
        exact (show Tryd.prog.wantsStandIn t = false by simpa using List.all_eq_true.1 hall t hm)⟩)
    (by kernel_rfl)
#print axioms proved

end Go.Proofs.YthbkimojbbkeiaaDoor.fnExactJointFewest
