/- For all arguments, the program's JointBest returns what the reference's returns, and the arguments read afterwards as they read before. The tables of math/bits read as the program's text lays them. No condition. -/
import Derived.Test.YthbkimojbbkeiaaDoorLawF
import Derived.Test.YthbkimojbbkeiaaDoorFlatSpare
import Derived.Test.YthbkimojbbkeiaaDoorEqB
import Derived.Test.YthbkimojbbkeiaaDoorLawJ
import Derived.Test.YthbkimojbbkeiaaDoorJbJ
namespace Go.Proofs.YthbkimojbbkeiaaDoor.fnExactJointBest
open Go.ChangeShapes Go.WideShapes Go.ChangeAt Go.RowKit
set_option linter.unusedVariables false

theorem spec_is {L : List Int} {F : Bool} (v1 : Value) (kind miles : Int) (cs : List Int) (n h1 : Nat) (w : World) (hv1 : SlF 2 w h1 v1 cs n) (h : jbL cs n kind miles = L ∧ jbB cs n kind miles = F) :
    Calls Tryd.prog 19 #[v1, .int .i64 kind, .int .i64 miles] w fun e w' => ∃ v', e = .returned (.tuple #[v', .bool F]) ∧ Below w.heap.size w w' ∧ Wr w' w.heap.size w'.heap.size v' L := by
  obtain ⟨rfl, rfl⟩ := h
  refine (specJointBest_b v1 kind miles cs n h1 w hv1).mono ?_
  rintro e w' ⟨v', rfl, b, o⟩
  refine ⟨v', rfl, b.out, o.out.wr ?_⟩
  have := hv1.len.2
  have : (jbL cs n kind miles).length ≤ n := bits_10
  omega
theorem impl_is {L : List Int} {F : Bool} (v1 : Value) (kind miles : Int) (cs : List Int) (n h1 : Nat) (w : World) (hv1 : SlF 2 w h1 v1 cs n) (hT : Tb w) (h : jbL cs n kind miles = L ∧ jbB cs n kind miles = F) :
    Calls Tryd.prog 18 #[v1, .int .i64 kind, .int .i64 miles] w fun e w' => ∃ v', e = .returned (.tuple #[v', .bool F]) ∧ Below w.heap.size w w' ∧ Wr w' w.heap.size w'.heap.size v' L := by
  obtain ⟨rfl, rfl⟩ := h
  refine (implJointBest_b v1 kind miles cs n h1 w hv1 hT).mono ?_
  rintro e w' ⟨v', rfl, b, o⟩
  exact ⟨v', rfl, b.out, o.out⟩

set_option maxRecDepth 100000 in
set_option maxHeartbeats 4000000 in
theorem walk (a0 : Option Addr) (len0 cap0 : Nat) (z0 : List Int) (a1 : Int) (a2 : Int) (w : World) (h0 : SlF0 2 w (.slice a0 len0 cap0) z0 len0) (h1 : -9223372036854775808 ≤ a1 ∧ a1 ≤ 9223372036854775807) (h2 : -9223372036854775808 ≤ a2 ∧ a2 ≤ 9223372036854775807) (hT : Tb w) :
    Calls Tryd.prog 7 #[.slice a0 len0 cap0, .int .i64 a1, .int .i64 a2] w fun e w' => e = .returned (.bool true) ∧ Below w.heap.size w w' := by
  obtain ⟨hc0, hd0⟩ := h0.caps
  by_cases hn0 : (len0 : Int) ≤ 1048576
  rotate_left
  · skip
    go_enter Tryd.func7, Tryd.ntmps7
    go_wp2_with fail
    refine (szSpareS_no len0 _ _ _ hc0 hd0 1048576 (by omega) (by omega) (by omega)).mono ?_
    rintro e _ ⟨rfl, rfl⟩
    go_wp2
    go_ret
    exact ⟨rfl, Below.refl _ w⟩
  have hx0 : decide (((1048576 : Int) - (len0 : Int)) < 0) = false := decide_eq_false (by omega)
  have hy0 : decide ((1048576 : Int) < (len0 : Int)) = false := decide_eq_false (by omega)
  have V0 := Lib.hid (h0.sl (by omega))
  have HA1 := Lib.hid h1
  have HA2 := Lib.hid h2
  have B := Lib.hid (Below.refl w.heap.size w)
  have T := Lib.hid hT
  have hw1 := hT.1
  clear hT
  clear h0 h1 h2 hc0 hd0
  obtain ⟨L, hL⟩ : ∃ L, jbL z0 len0 a1 a2 = L := ⟨_, rfl⟩
  obtain ⟨F, hF⟩ : ∃ F, jbB z0 len0 a1 a2 = F := ⟨_, rfl⟩
  have HE := Lib.hid (And.intro hL hF)
  clear hL hF
  go_enter Tryd.func7, Tryd.ntmps7
  go_wp2_with fail
  refine (szSpareS_ok len0 _ _ _ _ (by omega) (by omega)).mono ?_
  rintro e _ ⟨rfl, rfl⟩
  go_wp2_with fail
  refine (toSpareS_any _ z0 len0 _ _ V0.out).mono ?_
  rintro e w1 ⟨a0, rfl, b, r⟩
  replace B := Lib.hid (nextW B.out b)
  replace T := Lib.hid (T.out.old b)
  replace V0 := Lib.hid (V0.out.old b)
  have s1 := b.size
  clear b
  have A0 := Lib.hid r
  clear r
  go_wp2_with fail
  refine (spec_is _ a1 a2 z0 len0 _ _ A0.out.sl HE.out).mono ?_
  rintro e w2 ⟨sv, rfl, b, r⟩
  replace B := Lib.hid (nextW B.out b)
  replace T := Lib.hid (T.out.old b)
  replace V0 := Lib.hid (V0.out.old b)
  replace A0 := Lib.hid (A0.out.old b)
  have s2 := b.size
  clear b
  have S := Lib.hid r
  have l901 := S.out.len
  clear r
  clear A0
  go_wp2_with fail
  refine (toSpareS_any _ z0 len0 _ _ V0.out).mono ?_
  rintro e w3 ⟨x0, rfl, b, r⟩
  replace B := Lib.hid (nextW B.out b)
  replace T := Lib.hid (T.out.old b)
  replace V0 := Lib.hid (V0.out.old b)
  replace S := Lib.hid (S.out.old b)
  have s3 := b.size
  clear b
  have X0 := Lib.hid r
  clear r
  go_wp2_with fail
  refine (impl_is _ a1 a2 z0 len0 _ _ X0.out.sl T.out HE.out).mono ?_
  rintro e w4 ⟨gv, rfl, b, r⟩
  replace B := Lib.hid (nextW B.out b)
  replace T := Lib.hid (T.out.old b)
  replace V0 := Lib.hid (V0.out.old b)
  replace S := Lib.hid (S.out.old b)
  replace X0 := Lib.hid (X0.out.old b)
  have s4 := b.size
  clear b
  have G := Lib.hid r
  have l902 := G.out.len
  clear r
  have hne : (F != F) = false := by simp
  go_wp2_with fail
  refine (eqIntS_b (r := true) _ _ L L _ _ _ G.out.sl S.out.sl (by simp)).mono ?_
  rintro e w5 ⟨rfl, b⟩
  replace B := Lib.hid (nextW B.out b)
  replace T := Lib.hid (T.out.old b)
  replace V0 := Lib.hid (V0.out.old b)
  replace S := Lib.hid (S.out.old b)
  replace X0 := Lib.hid (X0.out.old b)
  replace G := Lib.hid (G.out.old b)
  have s5 := b.size
  clear b
  go_wp2_with fail
  refine (toSpareS_any _ z0 len0 _ _ V0.out).mono ?_
  rintro e w6 ⟨y0, rfl, b, r⟩
  replace B := Lib.hid (nextW B.out b)
  replace T := Lib.hid (T.out.old b)
  replace V0 := Lib.hid (V0.out.old b)
  replace S := Lib.hid (S.out.old b)
  replace X0 := Lib.hid (X0.out.old b)
  replace G := Lib.hid (G.out.old b)
  have s6 := b.size
  clear b
  have Y0 := Lib.hid r
  clear r
  go_wp2_with fail
  refine (eqSpareS_is (r := true) _ _ z0 z0 len0 len0 _ _ _ X0.out.sl Y0.out.sl (by simp)).mono ?_
  rintro e w7 ⟨rfl, b⟩
  replace B := Lib.hid (nextW B.out b)
  replace T := Lib.hid (T.out.old b)
  replace V0 := Lib.hid (V0.out.old b)
  replace S := Lib.hid (S.out.old b)
  replace X0 := Lib.hid (X0.out.old b)
  replace G := Lib.hid (G.out.old b)
  replace Y0 := Lib.hid (Y0.out.old b)
  have s7 := b.size
  clear b
  clear Y0
  go_wp2_with fail
  refine (markSpareS_any _ _ len0 1 _ _ _ X0.out (by omega) (by omega)).mono ?_
  rintro e w8 ⟨rfl, o, m⟩
  replace B := Lib.hid (B.out.trans (o.below (by omega) B.out.size))
  replace T := Lib.hid (T.out.out o (by omega))
  replace V0 := Lib.hid (V0.out.out o (by omega))
  replace S := Lib.hid (S.out.out o (by omega))
  replace G := Lib.hid (G.out.out o (by omega))
  have s8 := o.size
  clear o
  clear m X0
  have hm1 : decide (1 + (len0 : Int) * 2 < 0) = false := decide_eq_false (by omega)
  go_wp2_with fail
  refine (eqIntS_b (r := true) _ _ L L _ _ _ G.out.sl S.out.sl (by simp)).mono ?_
  rintro e w9 ⟨rfl, b⟩
  replace B := Lib.hid (nextW B.out b)
  replace T := Lib.hid (T.out.old b)
  replace V0 := Lib.hid (V0.out.old b)
  replace S := Lib.hid (S.out.old b)
  replace G := Lib.hid (G.out.old b)
  have s9 := b.size
  clear b
  have hm2 : decide (1 + (L.length : Int) < 0) = false := decide_eq_false (by omega)
  go_wp2_with fail
  refine (markIntS_any _ L 1 _ _ _ G.out (by omega) (by omega)).mono ?_
  rintro e w10 ⟨rfl, o, m⟩
  replace B := Lib.hid (B.out.trans (o.below (by omega) B.out.size))
  replace T := Lib.hid (T.out.out o (by omega))
  replace V0 := Lib.hid (V0.out.out o (by omega))
  replace S := Lib.hid (S.out.out o (by omega))
  have s10 := o.size
  clear o
  have M := Lib.hid m
  clear m G
  go_wp2_with fail
  refine (heldIntS_any _ L.length 1 _ _ M.out.sl (by omega) (by omega)).mono ?_
  rintro e _ ⟨rfl, rfl⟩
  go_wp2_with fail
  refine (toSpareS_any _ z0 len0 _ _ V0.out).mono ?_
  rintro e w11 ⟨x0, rfl, b, r⟩
  replace B := Lib.hid (nextW B.out b)
  replace T := Lib.hid (T.out.old b)
  replace V0 := Lib.hid (V0.out.old b)
  replace S := Lib.hid (S.out.old b)
  replace M := Lib.hid (M.out.old b)
  have s11 := b.size
  clear b
  have X0 := Lib.hid r
  clear r
  go_wp2_with fail
  refine (impl_is _ a1 a2 z0 len0 _ _ X0.out.sl T.out HE.out).mono ?_
  rintro e w12 ⟨gv2, rfl, b, r⟩
  replace B := Lib.hid (nextW B.out b)
  replace T := Lib.hid (T.out.old b)
  replace V0 := Lib.hid (V0.out.old b)
  replace S := Lib.hid (S.out.old b)
  replace M := Lib.hid (M.out.old b)
  replace X0 := Lib.hid (X0.out.old b)
  have s12 := b.size
  clear b
  have G := Lib.hid r
  have l903 := G.out.len
  clear r
  clear X0
  go_wp2_with fail
  refine (eqIntS_b (r := true) _ _ L L _ _ _ G.out.sl S.out.sl (by simp)).mono ?_
  rintro e w13 ⟨rfl, b⟩
  replace B := Lib.hid (nextW B.out b)
  replace T := Lib.hid (T.out.old b)
  replace V0 := Lib.hid (V0.out.old b)
  replace S := Lib.hid (S.out.old b)
  replace M := Lib.hid (M.out.old b)
  replace G := Lib.hid (G.out.old b)
  have s13 := b.size
  clear b
  go_wp2_with fail
  refine (heldIntS_any _ L.length 1 _ _ M.out.sl (by omega) (by omega)).mono ?_
  rintro e _ ⟨rfl, rfl⟩
  go_wp2_with fail
  go_ret
  exact ⟨rfl, B.out⟩

set_option maxRecDepth 100000 in
theorem lifted (os : Os) (started : os.Started) (H : Type) (enc : TypeId × Value → H) :
    ReturnsInHanded {} Tryd.checked os 7 .any (fun w args => (Rows.fnExactJointBestSpec.pre enc Tryd.prog Tryd.f7 [] false w args ∧ laidMetH Tryd.prog laidJ w) ∧ sizedMet enc Tryd.prog Tryd.f7 (OpenSpec.ofChange Rows.fnExactJointBestSpec) false w args) (Rows.fnExactJointBestSpec.post enc Tryd.prog Tryd.f7 false true false false) := by
  refine returnsInHanded_of_change_and (C := Tryd.checked) (X := fun w _ => laidMetH Tryd.prog laidJ w) (fun _ _ _ hh h => h.of_heap hh) own started (by kernel_rfl) Tryd.func7
    (ChangeSpec.witness_shaped (enc := enc) (C := Tryd.checked) (os := os) (X := fun w _ => laidMetH Tryd.prog laidJ w) false (World.doorLaid Tryd.prog 19 os) #[.slice none 0 0, .int .i64 0, .int .i64 0] 8 rfl (World.shaped_of_RefB (by kernel_rfl) (by kernel_rfl)) (by kernel_rfl) (by kernel_rfl) (by kernel_rfl) (door_met os _)) ?_
  intro W base args ds gs before hval0 hW _ _ hL _
  have hval : ∀ (j : Nat) t v, Tryd.f7.params[j]? = some t → args[j]? = some v → Value.okWide Tryd.prog W .any base t v := hval0
  have hW' := hW
  obtain ⟨p, q, hA0, hV, rfl, hfz, hnd⟩ := hW
  have hA : DataW.TrodAll enc Tryd.prog W 0 (fun _ => true) true Tryd.f7.params.toList args.toList ds p := hA0
  rw [Tryd.params7] at hA hval
  obtain ⟨v0, vs0, d0, ds0, p0, q0, hargs, rfl, rfl, h0, r0⟩ := trodAll_cons hA
  obtain ⟨v1, vs1, d1, ds1, p1, q1, rfl, rfl, rfl, h1, r1⟩ := trodAll_cons r0
  obtain ⟨v2, vs2, d2, ds2, p2, q2, rfl, rfl, rfl, h2, r2⟩ := trodAll_cons r1
  obtain ⟨rfl, rfl, rfl⟩ := trodAll_nil r2
  obtain rfl : args = #[v0, v1, v2] := by cases args; simp_all
  obtain ⟨rfl, rfl⟩ := trodVars_none hV
  obtain ⟨a0, len0, cap0, rfl⟩ := okWide_slice Tryd.underlying35 (hval 0 35 v0 rfl rfl)
  have k0 := h0
  have lt0 : ∀ x ∈ p0, x.block < W.heap.size := by obtain ⟨m, hm⟩ := k0; exact DataW.trod_lt m _ _ _ hm
  obtain ⟨z0, w0⟩ := slF0_of (s := 2) Tryd.underlying35 Tryd.underlying63 (by kernel_rfl) (by kernel_rfl) rfl (by omega) (flds2 Tryd.underlying3 Tryd.underlying3) h0
  obtain ⟨a1, rfl, rfl, rfl, w1⟩ := open_int Tryd.underlying3 (hval 1 3 v1 rfl rfl) h1
  have b1 : -9223372036854775808 ≤ a1 ∧ a1 ≤ 9223372036854775807 := by simpa [Lit.wf, IntKind.min, IntKind.max, IntKind.signed, IntKind.bits] using w1
  obtain ⟨a2, rfl, rfl, rfl, w2⟩ := open_int Tryd.underlying3 (hval 2 3 v2 rfl rfl) h2
  have b2 : -9223372036854775808 ≤ a2 ∧ a2 ≤ 9223372036854775807 := by simpa [Lit.wf, IntKind.min, IntKind.max, IntKind.signed, IntKind.bits] using w2
  clear hA0 hval0
  refine (walk a0 len0 cap0 z0 a1 a2 W w0 b1 b2 (tb_of hL)).mono fun e W' ⟨he, bel⟩ => ?_
  subst he
  exact ⟨_, rfl, _, _, _, [], _, [], hW', trodAll_mk1 (shut_bool Tryd.underlying4 _), (trodAll_cons_mk (Below.trod laidOut (by kernel_rfl) (of_decide_eq_true (by kernel_rfl)) k0 bel lt0) (trodAll_cons_mk (shut_int Tryd.underlying3 w1) (trodAll_cons_mk (shut_int Tryd.underlying3 w2) trodAll_mk0))), rfl, bel.frame _, fun h => by cases h⟩

theorem over : Rows.fnExactJointBestRow.holds Tryd.pinned (OpenSpec.ofChange Rows.fnExactJointBestSpec) :=
  OpenClaim.holds_of_wide 7 Tryd.f7 rfl rfl rfl rfl rfl rfl rfl ⟨rfl, rfl, rfl, rfl, rfl⟩ rfl rfl rfl rfl rfl (by kernel_rfl) Tryd.func7 (facts_of signs (by kernel_rfl))
    (of_decide_eq_true (by kernel_rfl)) (by unfold Func.isWrapper; first | (rw [if_pos (by decide +kernel)]; kernel_rfl) | (rw [if_neg (by decide +kernel)]; exact ⟨rfl, rfl⟩))
    (fun os started H enc _ => lifted os started H enc)

theorem proved : Rows.FnExactJointBestCardSaid :=
  Claim7.holds_tied_plain_at .later [] [.data, .data] true (true, "63c63b5b0d609edcfb30ebf556ca6689c936c8326ac42e96486b87f7987fc2ce") false
    over (fun _ h => by cases h) (by kernel_rfl) (fun _ h => by cases h) fnExactJointBest_row_tie rfl ⟨rfl, rfl⟩ (by kernel_rfl) rfl
    (fun f fn hf hfn => by
      obtain rfl : f = 7 := Option.some.inj ((show Tryd.prog.funcNamed "loop.example/cableship/laws.FnExactJointBest" = some 7 by kernel_rfl).symm.trans hf) |>.symm
      obtain rfl : fn = Tryd.f7 := (Option.some.inj (Tryd.func7.symm.trans hfn)).symm
      exact ⟨by kernel_rfl, fun j t ht => by
        rw [Tryd.params7] at ht
        have hm : t ∈ [35, 3, 3] := by simpa using Array.mem_of_getElem? ht
        have hall : ([35, 3, 3].all fun u => !Tryd.prog.wantsStandIn u) = true := by kernel_rfl
        exact (show Tryd.prog.wantsStandIn t = false by simpa using List.all_eq_true.1 hall t hm)⟩)
    (by kernel_rfl)
#print axioms proved

end Go.Proofs.YthbkimojbbkeiaaDoor.fnExactJointBest
