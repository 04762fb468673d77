/- For all arguments, the program's ServeCan returns what the reference's returns, and the arguments read afterwards as they read before. No condition. -/
import Derived.Test.YthbkimojbbkeiaaLawF
import Derived.Test.YthbkimojbbkeiaaFlatSpare
import Derived.Test.YthbkimojbbkeiaaSvManyI
namespace Go.Proofs.Ythbkimojbbkeiaa.fnExactServeCan
open Go.ChangeShapes Go.WideShapes Go.ChangeAt Go.RowKit
set_option linter.unusedVariables false

set_option maxRecDepth 100000 in
set_option maxHeartbeats 2000000 in
theorem walk (a0 : Option Addr) (len0 cap0 : Nat) (z0 : List Int) (a1 : Option Addr) (len1 cap1 : Nat) (z1 : List Int) (w : World) (h0 : SlF0 2 w (.slice a0 len0 cap0) z0 len0) (h1 : SlF0 2 w (.slice a1 len1 cap1) z1 len1) :
    Calls Try.prog 9 #[.slice a0 len0 cap0, .slice a1 len1 cap1] w fun e w' => e = .returned (.bool true) ∧ Below w.heap.size w w' := by
  obtain ⟨hc0, hd0⟩ := h0.caps
  obtain ⟨hc1, hd1⟩ := h1.caps
  by_cases hn0 : (len0 : Int) ≤ 1048576
  rotate_left
  · skip
    go_enter Try.func9, Try.ntmps9
    go_wp2_with fail
    refine (szSpareS_no len0 _ _ _ hc0 hd0 1048576 (by omega) (by omega) (by omega)).mono ?_
    rintro e _ ⟨rfl, rfl⟩
    go_wp2
    go_ret
    exact ⟨rfl, Below.refl _ w⟩
  by_cases hn1 : (len1 : Int) ≤ (1048576 - (len0 : Int))
  rotate_left
  · have hx1 : decide ((1048576 - (len0 : Int)) < 0) = false := decide_eq_false (by omega)
    go_enter Try.func9, Try.ntmps9
    go_wp2_with fail
    refine (szSpareS_ok len0 _ _ _ _ (by omega) (by omega)).mono ?_
    rintro e _ ⟨rfl, rfl⟩
    go_wp2_with fail
    refine (szSpareS_no len1 _ _ _ hc1 hd1 (1048576 - (len0 : Int)) (by omega) (by omega) (by omega)).mono ?_
    rintro e _ ⟨rfl, rfl⟩
    go_wp2
    go_ret
    exact ⟨rfl, Below.refl _ w⟩
  have hx0 : decide (((1048576 : Int) - (len0 : Int)) < 0) = false := decide_eq_false (by omega)
  have hy0 : decide ((1048576 : Int) < (len0 : Int)) = false := decide_eq_false (by omega)
  have hx1 : decide ((((1048576 : Int) - (len0 : Int)) - (len1 : Int)) < 0) = false := decide_eq_false (by omega)
  have hy1 : decide ((((1048576 : Int) - (len0 : Int)) : Int) < (len1 : Int)) = false := decide_eq_false (by omega)
  have V0 := Lib.hid (h0.sl (by omega))
  have V1 := Lib.hid (h1.sl (by omega))
  have B := Lib.hid (Below.refl w.heap.size w)
  clear h0 h1 hc0 hd0 hc1 hd1
  go_enter Try.func9, Try.ntmps9
  go_wp2_with fail
  refine (szSpareS_ok len0 _ _ _ _ (by omega) (by omega)).mono ?_
  rintro e _ ⟨rfl, rfl⟩
  go_wp2_with fail
  refine (szSpareS_ok len1 _ _ _ _ (by omega) (by omega)).mono ?_
  rintro e _ ⟨rfl, rfl⟩
  go_wp2_with fail
  refine (toSpareS_any _ z0 len0 _ _ V0.out).mono ?_
  rintro e w1 ⟨r0, rfl, b, r⟩
  replace B := Lib.hid (nextW B.out b)
  replace V0 := Lib.hid (V0.out.old b)
  replace V1 := Lib.hid (V1.out.old b)
  have R0 := Lib.hid r.sl
  clear r
  clear b
  go_wp2_with fail
  refine (toSpareS_any _ z1 len1 _ _ V1.out).mono ?_
  rintro e w2 ⟨r1, rfl, b, r⟩
  replace B := Lib.hid (nextW B.out b)
  replace V0 := Lib.hid (V0.out.old b)
  replace V1 := Lib.hid (V1.out.old b)
  replace R0 := Lib.hid (R0.out.old b)
  have R1 := Lib.hid r.sl
  clear r
  clear b
  go_wp2_with fail
  refine (specServeCan_b _ _ z0 z1 len0 len1 _ _ _ R0.out R1.out).mono ?_
  rintro e w3 ⟨rfl, b⟩
  replace B := Lib.hid (nextW B.out b)
  replace V0 := Lib.hid (V0.out.old b)
  replace V1 := Lib.hid (V1.out.old b)
  replace R0 := Lib.hid (R0.out.old b)
  replace R1 := Lib.hid (R1.out.old b)
  clear b
  clear R0
  clear R1
  go_wp2_with fail
  refine (toSpareS_any _ z0 len0 _ _ V0.out).mono ?_
  rintro e w4 ⟨x0, rfl, b, r⟩
  replace B := Lib.hid (nextW B.out b)
  replace V0 := Lib.hid (V0.out.old b)
  replace V1 := Lib.hid (V1.out.old b)
  have X0 := Lib.hid r.sl
  clear r
  clear b
  go_wp2_with fail
  refine (toSpareS_any _ z1 len1 _ _ V1.out).mono ?_
  rintro e w5 ⟨x1, rfl, b, r⟩
  replace B := Lib.hid (nextW B.out b)
  replace V0 := Lib.hid (V0.out.old b)
  replace V1 := Lib.hid (V1.out.old b)
  replace X0 := Lib.hid (X0.out.old b)
  have X1 := Lib.hid r.sl
  clear r
  clear b
  have hne : (scB z0 len0 z1 len1 != scB z0 len0 z1 len1) = false := by simp
  go_wp2_with fail
  refine (implServeCan_b _ _ z0 z1 len0 len1 _ _ _ X0.out X1.out).mono ?_
  rintro e w6 ⟨rfl, b⟩
  replace B := Lib.hid (nextW B.out b)
  replace V0 := Lib.hid (V0.out.old b)
  replace V1 := Lib.hid (V1.out.old b)
  replace X0 := Lib.hid (X0.out.old b)
  replace X1 := Lib.hid (X1.out.old b)
  clear b
  go_wp2_with fail
  refine (toSpareS_any _ z0 len0 _ _ V0.out).mono ?_
  rintro e w7 ⟨y0, rfl, b, r⟩
  replace B := Lib.hid (nextW B.out b)
  replace V0 := Lib.hid (V0.out.old b)
  replace V1 := Lib.hid (V1.out.old b)
  replace X0 := Lib.hid (X0.out.old b)
  replace X1 := Lib.hid (X1.out.old b)
  have Y0 := Lib.hid r.sl
  clear r
  clear b
  go_wp2_with fail
  refine (eqSpareS_is (r := true) _ _ z0 z0 len0 len0 _ _ _ X0.out Y0.out (by simp)).mono ?_
  rintro e w8 ⟨rfl, b⟩
  replace B := Lib.hid (nextW B.out b)
  replace V0 := Lib.hid (V0.out.old b)
  replace V1 := Lib.hid (V1.out.old b)
  replace X0 := Lib.hid (X0.out.old b)
  replace X1 := Lib.hid (X1.out.old b)
  replace Y0 := Lib.hid (Y0.out.old b)
  clear b
  clear Y0
  go_wp2_with fail
  refine (toSpareS_any _ z1 len1 _ _ V1.out).mono ?_
  rintro e w9 ⟨y1, rfl, b, r⟩
  replace B := Lib.hid (nextW B.out b)
  replace V0 := Lib.hid (V0.out.old b)
  replace V1 := Lib.hid (V1.out.old b)
  replace X0 := Lib.hid (X0.out.old b)
  replace X1 := Lib.hid (X1.out.old b)
  have Y1 := Lib.hid r.sl
  clear r
  clear b
  go_wp2_with fail
  refine (eqSpareS_is (r := true) _ _ z1 z1 len1 len1 _ _ _ X1.out Y1.out (by simp)).mono ?_
  rintro e w10 ⟨rfl, b⟩
  replace B := Lib.hid (nextW B.out b)
  replace V0 := Lib.hid (V0.out.old b)
  replace V1 := Lib.hid (V1.out.old b)
  replace X0 := Lib.hid (X0.out.old b)
  replace X1 := Lib.hid (X1.out.old b)
  replace Y1 := Lib.hid (Y1.out.old b)
  clear b
  clear Y1
  go_wp2
  go_ret
  exact ⟨rfl, B.out⟩

set_option maxRecDepth 100000 in
theorem lifted (os : Os) (started : os.Started) (H : Type) (enc : TypeId × Value → H) :
    ReturnsInHanded {} Try.checked os 9 .any (Rows.fnExactServeCanSpec.pre6 enc Try.prog Try.f9 Rows.fnExactServeCanRow.domain false) (Rows.fnExactServeCanSpec.post enc Try.prog Try.f9 false true false false) := by
  refine returnsInHanded_of_change (C := Try.checked) own started (by kernel_rfl) Try.func9
    (ChangeSpec.witness6 (enc := enc) (C := Try.checked) false ⟨#[], #[.slice none 0 0, .slice none 0 0], []⟩ 8 (by kernel_rfl) (by kernel_rfl) (by kernel_rfl) (by kernel_rfl)) ?_
  intro W base args ds gs before hval0 hW hcnd _
  have hval : ∀ (j : Nat) t v, Try.f9.params[j]? = some t → args[j]? = some v → Value.okWide Try.prog W .any base t v := hval0
  have hW' := hW
  obtain ⟨p, q, hA0, hV, rfl, hfz, hnd⟩ := hW
  have hA : DataW.TrodAll enc Try.prog W 0 (fun _ => true) true Try.f9.params.toList args.toList ds p := hA0
  rw [Try.params9] at hA hval
  obtain ⟨v0, vs0, d0, ds0, p0, q0, hargs, rfl, rfl, h0, r0⟩ := trodAll_cons hA
  obtain ⟨v1, vs1, d1, ds1, p1, q1, rfl, rfl, rfl, h1, r1⟩ := trodAll_cons r0
  obtain ⟨rfl, rfl, rfl⟩ := trodAll_nil r1
  obtain rfl : args = #[v0, v1] := by cases args; simp_all
  obtain ⟨rfl, rfl⟩ := trodVars_none hV
  obtain ⟨a0, len0, cap0, rfl⟩ := okWide_slice Try.underlying22 (hval 0 22 v0 rfl rfl)
  have k0 := h0
  have lt0 : ∀ x ∈ p0, x.block < W.heap.size := by obtain ⟨m, hm⟩ := k0; exact DataW.trod_lt m _ _ _ hm
  obtain ⟨z0, w0⟩ := slF0_of (s := 2) Try.underlying22 Try.underlying32 (by kernel_rfl) (by kernel_rfl) rfl (by omega) (flds2 Try.underlying3 Try.underlying3) h0
  obtain ⟨a1, len1, cap1, rfl⟩ := okWide_slice Try.underlying22 (hval 1 22 v1 rfl rfl)
  have k1 := h1
  have lt1 : ∀ x ∈ p1, x.block < W.heap.size := by obtain ⟨m, hm⟩ := k1; exact DataW.trod_lt m _ _ _ hm
  obtain ⟨z1, w1⟩ := slF0_of (s := 2) Try.underlying22 Try.underlying32 (by kernel_rfl) (by kernel_rfl) rfl (by omega) (flds2 Try.underlying3 Try.underlying3) h1
  clear hA0 hval0
  refine (walk a0 len0 cap0 z0 a1 len1 cap1 z1 W w0 w1).mono fun e W' ⟨he, bel⟩ => ?_
  subst he
  exact ⟨_, rfl, _, _, _, [], _, [], hW', trodAll_mk1 (shut_bool Try.underlying4 _), (trodAll_cons_mk (Below.trod laidOut (by kernel_rfl) (of_decide_eq_true (by kernel_rfl)) k0 bel lt0) (trodAll_cons_mk (Below.trod laidOut (by kernel_rfl) (of_decide_eq_true (by kernel_rfl)) k1 bel lt1) trodAll_mk0)), rfl, bel.frame _, fun h => by cases h⟩

theorem over : Rows.fnExactServeCanRow.holds Try.pinned (OpenSpec.ofChange Rows.fnExactServeCanSpec) :=
  OpenClaim.holds_of_wide 9 Try.f9 rfl rfl rfl rfl rfl rfl rfl ⟨rfl, rfl, rfl, rfl, rfl⟩ rfl rfl rfl rfl rfl (by kernel_rfl) Try.func9 (facts_of signs (by kernel_rfl))
    (of_decide_eq_true (by kernel_rfl)) (by unfold Func.isWrapper; first | (rw [if_pos (by decide +kernel)]; kernel_rfl) | (rw [if_neg (by decide +kernel)]; exact ⟨rfl, rfl⟩))
    (fun os started H enc _ => lifted os started H enc)

theorem proved : Rows.FnExactServeCanSaid := over
#print axioms proved

end Go.Proofs.Ythbkimojbbkeiaa.fnExactServeCan
