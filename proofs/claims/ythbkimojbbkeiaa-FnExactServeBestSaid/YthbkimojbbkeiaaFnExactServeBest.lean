/- For all arguments, the program's ServeBest returns what the reference's returns, and the arguments read afterwards as they read before. No condition. -/
import Derived.Test.YthbkimojbbkeiaaLawF
import Derived.Test.YthbkimojbbkeiaaFlatSpare
import Derived.Test.YthbkimojbbkeiaaEqB
import Derived.Test.YthbkimojbbkeiaaSvBestJ
import Derived.Test.YthbkimojbbkeiaaSvBestS
namespace Go.Proofs.Ythbkimojbbkeiaa.fnExactServeBest
open Go.ChangeShapes Go.WideShapes Go.ChangeAt Go.RowKit
set_option linter.unusedVariables false

theorem spec_is {L : List Int} {F : Bool} (v1 v2 : Value) (cs ds : List Int) (n m h1 h2 : Nat) (w : World) (hv1 : SlF 2 w h1 v1 cs n) (hv2 : SlF 2 w h2 v2 ds m) (h : sbL cs n ds m = L ∧ scB cs n ds m = F) :
    Calls Try.prog 54 #[v1, v2] w fun e w' => ∃ v', e = .returned (.tuple #[v', .bool F]) ∧ Below w.heap.size w w' ∧ Wr w' w.heap.size w'.heap.size v' L := by
  obtain ⟨rfl, rfl⟩ := h
  refine (specServeBest_b v1 v2 cs ds n m h1 h2 w hv1 hv2).mono ?_
  rintro e w' ⟨v', rfl, b, o⟩
  refine ⟨v', rfl, b.out, o.out.wr ?_⟩
  unfold sbL
  split
  · rename_i h
    rw [scB, Bool.and_eq_true, decide_eq_true_eq] at h
    have h3 := ((best_main (cs := cs) (ds := ds) (n := n) (m := m) m [] (by simp)).2 h.2).2.1
    have h4 := (both_bd h.1).2.1
    omega
  · simp
theorem impl_is {L : List Int} {F : Bool} (v1 v2 : Value) (cs ds : List Int) (n m h1 h2 : Nat) (w : World) (hv1 : SlF 2 w h1 v1 cs n) (hv2 : SlF 2 w h2 v2 ds m) (h : sbL cs n ds m = L ∧ scB cs n ds m = F) :
    Calls Try.prog 51 #[v1, v2] w fun e w' => ∃ v', e = .returned (.tuple #[v', .bool F]) ∧ Below w.heap.size w w' ∧ Wr w' w.heap.size w'.heap.size v' L := by
  obtain ⟨rfl, rfl⟩ := h
  exact implServeBest_b v1 v2 cs ds n m h1 h2 w hv1 hv2

set_option maxRecDepth 100000 in
set_option maxHeartbeats 4000000 in
theorem walk (a0 : Option Addr) (len0 cap0 : Nat) (z0 : List Int) (a1 : Option Addr) (len1 cap1 : Nat) (z1 : List Int) (w : World) (h0 : SlF0 2 w (.slice a0 len0 cap0) z0 len0) (h1 : SlF0 2 w (.slice a1 len1 cap1) z1 len1) :
    Calls Try.prog 16 #[.slice a0 len0 cap0, .slice a1 len1 cap1] w fun e w' => e = .returned (.bool true) ∧ Below w.heap.size w w' := by
  obtain ⟨hc0, hd0⟩ := h0.caps
  obtain ⟨hc1, hd1⟩ := h1.caps
  by_cases hn0 : (len0 : Int) ≤ 1048576
  rotate_left
  · skip
    go_enter Try.func16, Try.ntmps16
    go_wp2_with fail
    refine (szSpareS_no len0 _ _ _ hc0 hd0 1048576 (by omega) (by omega) (by omega)).mono ?_
    rintro e _ ⟨rfl, rfl⟩
    go_wp2
    go_ret
    exact ⟨rfl, Below.refl _ w⟩
  by_cases hn1 : (len1 : Int) ≤ ((1048576 : Int) - (len0 : Int))
  rotate_left
  · have hx1 : decide (((1048576 : Int) - (len0 : Int)) < 0) = false := decide_eq_false (by omega)
    go_enter Try.func16, Try.ntmps16
    go_wp2_with fail
    refine (szSpareS_ok len0 _ _ _ _ (by omega) (by omega)).mono ?_
    rintro e _ ⟨rfl, rfl⟩
    go_wp2_with fail
    refine (szSpareS_no len1 _ _ _ hc1 hd1 (1048576 - (len0 : Int)) (by omega) (by omega) (by omega)).mono ?_
    rintro e _ ⟨rfl, rfl⟩
    go_wp2
    go_ret
    exact ⟨rfl, Below.refl _ w⟩
  have hx0 : decide (((1048576 : Int) - (len0 : Int)) < 0) = false := decide_eq_false (by omega)
  have hy0 : decide ((1048576 : Int) < (len0 : Int)) = false := decide_eq_false (by omega)
  have hx1 : decide ((((1048576 : Int) - (len0 : Int)) - (len1 : Int)) < 0) = false := decide_eq_false (by omega)
  have hy1 : decide ((((1048576 : Int) - (len0 : Int)) : Int) < (len1 : Int)) = false := decide_eq_false (by omega)
  have V0 := Lib.hid (h0.sl (by omega))
  have V1 := Lib.hid (h1.sl (by omega))
  have B := Lib.hid (Below.refl w.heap.size w)
  clear h0 h1 hc0 hd0 hc1 hd1
  obtain ⟨L, hL⟩ : ∃ L, sbL z0 len0 z1 len1 = L := ⟨_, rfl⟩
  obtain ⟨F, hF⟩ : ∃ F, scB z0 len0 z1 len1 = F := ⟨_, rfl⟩
  have HE := Lib.hid (And.intro hL hF)
  clear hL hF
  go_enter Try.func16, Try.ntmps16
  go_wp2_with fail
  refine (szSpareS_ok len0 _ _ _ _ (by omega) (by omega)).mono ?_
  rintro e _ ⟨rfl, rfl⟩
  go_wp2_with fail
  refine (szSpareS_ok len1 _ _ _ _ (by omega) (by omega)).mono ?_
  rintro e _ ⟨rfl, rfl⟩
  go_wp2_with fail
  refine (toSpareS_any _ z0 len0 _ _ V0.out).mono ?_
  rintro e w1 ⟨a0, rfl, b, r⟩
  replace B := Lib.hid (nextW B.out b)
  replace V0 := Lib.hid (V0.out.old b)
  replace V1 := Lib.hid (V1.out.old b)
  have s1 := b.size
  clear b
  have A0 := Lib.hid r
  clear r
  go_wp2_with fail
  refine (toSpareS_any _ z1 len1 _ _ V1.out).mono ?_
  rintro e w2 ⟨a1, rfl, b, r⟩
  replace B := Lib.hid (nextW B.out b)
  replace V0 := Lib.hid (V0.out.old b)
  replace V1 := Lib.hid (V1.out.old b)
  replace A0 := Lib.hid (A0.out.old b)
  have s2 := b.size
  clear b
  have A1 := Lib.hid r
  clear r
  go_wp2_with fail
  refine (spec_is _ _ z0 z1 len0 len1 _ _ _ A0.out.sl A1.out.sl HE.out).mono ?_
  rintro e w3 ⟨sv, rfl, b, r⟩
  replace B := Lib.hid (nextW B.out b)
  replace V0 := Lib.hid (V0.out.old b)
  replace V1 := Lib.hid (V1.out.old b)
  replace A0 := Lib.hid (A0.out.old b)
  replace A1 := Lib.hid (A1.out.old b)
  have s3 := b.size
  clear b
  have S := Lib.hid r
  have l901 := S.out.len
  clear r
  clear A0
  clear A1
  go_wp2_with fail
  refine (toSpareS_any _ z0 len0 _ _ V0.out).mono ?_
  rintro e w4 ⟨x0, rfl, b, r⟩
  replace B := Lib.hid (nextW B.out b)
  replace V0 := Lib.hid (V0.out.old b)
  replace V1 := Lib.hid (V1.out.old b)
  replace S := Lib.hid (S.out.old b)
  have s4 := b.size
  clear b
  have X0 := Lib.hid r
  clear r
  go_wp2_with fail
  refine (toSpareS_any _ z1 len1 _ _ V1.out).mono ?_
  rintro e w5 ⟨x1, rfl, b, r⟩
  replace B := Lib.hid (nextW B.out b)
  replace V0 := Lib.hid (V0.out.old b)
  replace V1 := Lib.hid (V1.out.old b)
  replace S := Lib.hid (S.out.old b)
  replace X0 := Lib.hid (X0.out.old b)
  have s5 := b.size
  clear b
  have X1 := Lib.hid r
  clear r
  go_wp2_with fail
  refine (impl_is _ _ z0 z1 len0 len1 _ _ _ X0.out.sl X1.out.sl HE.out).mono ?_
  rintro e w6 ⟨gv, rfl, b, r⟩
  replace B := Lib.hid (nextW B.out b)
  replace V0 := Lib.hid (V0.out.old b)
  replace V1 := Lib.hid (V1.out.old b)
  replace S := Lib.hid (S.out.old b)
  replace X0 := Lib.hid (X0.out.old b)
  replace X1 := Lib.hid (X1.out.old b)
  have s6 := b.size
  clear b
  have G := Lib.hid r
  have l902 := G.out.len
  clear r
  have hne : (F != F) = false := by simp
  go_wp2_with fail
  refine (eqIntS_b (r := true) _ _ L L _ _ _ G.out.sl S.out.sl (by simp)).mono ?_
  rintro e w7 ⟨rfl, b⟩
  replace B := Lib.hid (nextW B.out b)
  replace V0 := Lib.hid (V0.out.old b)
  replace V1 := Lib.hid (V1.out.old b)
  replace S := Lib.hid (S.out.old b)
  replace X0 := Lib.hid (X0.out.old b)
  replace X1 := Lib.hid (X1.out.old b)
  replace G := Lib.hid (G.out.old b)
  have s7 := b.size
  clear b
  go_wp2_with fail
  refine (toSpareS_any _ z0 len0 _ _ V0.out).mono ?_
  rintro e w8 ⟨y0, rfl, b, r⟩
  replace B := Lib.hid (nextW B.out b)
  replace V0 := Lib.hid (V0.out.old b)
  replace V1 := Lib.hid (V1.out.old b)
  replace S := Lib.hid (S.out.old b)
  replace X0 := Lib.hid (X0.out.old b)
  replace X1 := Lib.hid (X1.out.old b)
  replace G := Lib.hid (G.out.old b)
  have s8 := b.size
  clear b
  have Y0 := Lib.hid r
  clear r
  go_wp2_with fail
  refine (eqSpareS_is (r := true) _ _ z0 z0 len0 len0 _ _ _ X0.out.sl Y0.out.sl (by simp)).mono ?_
  rintro e w9 ⟨rfl, b⟩
  replace B := Lib.hid (nextW B.out b)
  replace V0 := Lib.hid (V0.out.old b)
  replace V1 := Lib.hid (V1.out.old b)
  replace S := Lib.hid (S.out.old b)
  replace X0 := Lib.hid (X0.out.old b)
  replace X1 := Lib.hid (X1.out.old b)
  replace G := Lib.hid (G.out.old b)
  replace Y0 := Lib.hid (Y0.out.old b)
  have s9 := b.size
  clear b
  clear Y0
  go_wp2_with fail
  refine (toSpareS_any _ z1 len1 _ _ V1.out).mono ?_
  rintro e w10 ⟨y1, rfl, b, r⟩
  replace B := Lib.hid (nextW B.out b)
  replace V0 := Lib.hid (V0.out.old b)
  replace V1 := Lib.hid (V1.out.old b)
  replace S := Lib.hid (S.out.old b)
  replace X0 := Lib.hid (X0.out.old b)
  replace X1 := Lib.hid (X1.out.old b)
  replace G := Lib.hid (G.out.old b)
  have s10 := b.size
  clear b
  have Y1 := Lib.hid r
  clear r
  go_wp2_with fail
  refine (eqSpareS_is (r := true) _ _ z1 z1 len1 len1 _ _ _ X1.out.sl Y1.out.sl (by simp)).mono ?_
  rintro e w11 ⟨rfl, b⟩
  replace B := Lib.hid (nextW B.out b)
  replace V0 := Lib.hid (V0.out.old b)
  replace V1 := Lib.hid (V1.out.old b)
  replace S := Lib.hid (S.out.old b)
  replace X0 := Lib.hid (X0.out.old b)
  replace X1 := Lib.hid (X1.out.old b)
  replace G := Lib.hid (G.out.old b)
  replace Y1 := Lib.hid (Y1.out.old b)
  have s11 := b.size
  clear b
  clear Y1
  go_wp2_with fail
  refine (markSpareS_any _ _ len0 1 _ _ _ X0.out (by omega) (by omega)).mono ?_
  rintro e w12 ⟨rfl, o, m⟩
  replace B := Lib.hid (B.out.trans (o.below (by omega) B.out.size))
  replace V0 := Lib.hid (V0.out.out o (by omega))
  replace V1 := Lib.hid (V1.out.out o (by omega))
  replace S := Lib.hid (S.out.out o (by omega))
  replace X1 := Lib.hid (X1.out.out o (by omega))
  replace G := Lib.hid (G.out.out o (by omega))
  have s12 := o.size
  clear o
  clear m X0
  go_wp2_with fail
  refine (markSpareS_any _ _ len1 (1 + (len0 : Int) * 2) _ _ _ X1.out (by omega) (by omega)).mono ?_
  rintro e w13 ⟨rfl, o, m⟩
  replace B := Lib.hid (B.out.trans (o.below (by omega) B.out.size))
  replace V0 := Lib.hid (V0.out.out o (by omega))
  replace V1 := Lib.hid (V1.out.out o (by omega))
  replace S := Lib.hid (S.out.out o (by omega))
  replace G := Lib.hid (G.out.out o (by omega))
  have s13 := o.size
  clear o
  clear m X1
  have hm1 : decide ((1 + (len0 : Int) * 2) + (len1 : Int) * 2 < 0) = false := decide_eq_false (by omega)
  go_wp2_with fail
  refine (eqIntS_b (r := true) _ _ L L _ _ _ G.out.sl S.out.sl (by simp)).mono ?_
  rintro e w14 ⟨rfl, b⟩
  replace B := Lib.hid (nextW B.out b)
  replace V0 := Lib.hid (V0.out.old b)
  replace V1 := Lib.hid (V1.out.old b)
  replace S := Lib.hid (S.out.old b)
  replace G := Lib.hid (G.out.old b)
  have s14 := b.size
  clear b
  have hm2 : decide (1 + (L.length : Int) < 0) = false := decide_eq_false (by omega)
  go_wp2_with fail
  refine (markIntS_any _ L 1 _ _ _ G.out (by omega) (by omega)).mono ?_
  rintro e w15 ⟨rfl, o, m⟩
  replace B := Lib.hid (B.out.trans (o.below (by omega) B.out.size))
  replace V0 := Lib.hid (V0.out.out o (by omega))
  replace V1 := Lib.hid (V1.out.out o (by omega))
  replace S := Lib.hid (S.out.out o (by omega))
  have s15 := o.size
  clear o
  have M := Lib.hid m
  clear m G
  go_wp2_with fail
  refine (heldIntS_any _ L.length 1 _ _ M.out.sl (by omega) (by omega)).mono ?_
  rintro e _ ⟨rfl, rfl⟩
  go_wp2_with fail
  refine (toSpareS_any _ z0 len0 _ _ V0.out).mono ?_
  rintro e w16 ⟨x0, rfl, b, r⟩
  replace B := Lib.hid (nextW B.out b)
  replace V0 := Lib.hid (V0.out.old b)
  replace V1 := Lib.hid (V1.out.old b)
  replace S := Lib.hid (S.out.old b)
  replace M := Lib.hid (M.out.old b)
  have s16 := b.size
  clear b
  have X0 := Lib.hid r
  clear r
  go_wp2_with fail
  refine (toSpareS_any _ z1 len1 _ _ V1.out).mono ?_
  rintro e w17 ⟨x1, rfl, b, r⟩
  replace B := Lib.hid (nextW B.out b)
  replace V0 := Lib.hid (V0.out.old b)
  replace V1 := Lib.hid (V1.out.old b)
  replace S := Lib.hid (S.out.old b)
  replace M := Lib.hid (M.out.old b)
  replace X0 := Lib.hid (X0.out.old b)
  have s17 := b.size
  clear b
  have X1 := Lib.hid r
  clear r
  go_wp2_with fail
  refine (impl_is _ _ z0 z1 len0 len1 _ _ _ X0.out.sl X1.out.sl HE.out).mono ?_
  rintro e w18 ⟨gv2, rfl, b, r⟩
  replace B := Lib.hid (nextW B.out b)
  replace V0 := Lib.hid (V0.out.old b)
  replace V1 := Lib.hid (V1.out.old b)
  replace S := Lib.hid (S.out.old b)
  replace M := Lib.hid (M.out.old b)
  replace X0 := Lib.hid (X0.out.old b)
  replace X1 := Lib.hid (X1.out.old b)
  have s18 := b.size
  clear b
  have G := Lib.hid r
  have l903 := G.out.len
  clear r
  clear X0
  clear X1
  go_wp2_with fail
  refine (eqIntS_b (r := true) _ _ L L _ _ _ G.out.sl S.out.sl (by simp)).mono ?_
  rintro e w19 ⟨rfl, b⟩
  replace B := Lib.hid (nextW B.out b)
  replace V0 := Lib.hid (V0.out.old b)
  replace V1 := Lib.hid (V1.out.old b)
  replace S := Lib.hid (S.out.old b)
  replace M := Lib.hid (M.out.old b)
  replace G := Lib.hid (G.out.old b)
  have s19 := b.size
  clear b
  go_wp2_with fail
  refine (heldIntS_any _ L.length 1 _ _ M.out.sl (by omega) (by omega)).mono ?_
  rintro e _ ⟨rfl, rfl⟩
  go_wp2_with fail
  go_ret
  exact ⟨rfl, B.out⟩

set_option maxRecDepth 100000 in
theorem lifted (os : Os) (started : os.Started) (H : Type) (enc : TypeId × Value → H) :
    ReturnsInHanded {} Try.checked os 16 .any (Rows.fnExactServeBestSpec.pre6 enc Try.prog Try.f16 Rows.fnExactServeBestRow.domain false) (Rows.fnExactServeBestSpec.post enc Try.prog Try.f16 false true false false) := by
  refine returnsInHanded_of_change (C := Try.checked) own started (by kernel_rfl) Try.func16
    (ChangeSpec.witness6 (enc := enc) (C := Try.checked) false ⟨#[], #[.slice none 0 0, .slice none 0 0], []⟩ 8 (by kernel_rfl) (by kernel_rfl) (by kernel_rfl) (by kernel_rfl)) ?_
  intro W base args ds gs before hval0 hW hcnd _
  have hval : ∀ (j : Nat) t v, Try.f16.params[j]? = some t → args[j]? = some v → Value.okWide Try.prog W .any base t v := hval0
  have hW' := hW
  obtain ⟨p, q, hA0, hV, rfl, hfz, hnd⟩ := hW
  have hA : DataW.TrodAll enc Try.prog W 0 (fun _ => true) true Try.f16.params.toList args.toList ds p := hA0
  rw [Try.params16] at hA hval
  obtain ⟨v0, vs0, d0, ds0, p0, q0, hargs, rfl, rfl, h0, r0⟩ := trodAll_cons hA
  obtain ⟨v1, vs1, d1, ds1, p1, q1, rfl, rfl, rfl, h1, r1⟩ := trodAll_cons r0
  obtain ⟨rfl, rfl, rfl⟩ := trodAll_nil r1
  obtain rfl : args = #[v0, v1] := by cases args; simp_all
  obtain ⟨rfl, rfl⟩ := trodVars_none hV
  obtain ⟨a0, len0, cap0, rfl⟩ := okWide_slice Try.underlying22 (hval 0 22 v0 rfl rfl)
  have k0 := h0
  have lt0 : ∀ x ∈ p0, x.block < W.heap.size := by obtain ⟨m, hm⟩ := k0; exact DataW.trod_lt m _ _ _ hm
  obtain ⟨z0, w0⟩ := slF0_of (s := 2) Try.underlying22 Try.underlying32 (by kernel_rfl) (by kernel_rfl) rfl (by omega) (flds2 Try.underlying3 Try.underlying3) h0
  obtain ⟨a1, len1, cap1, rfl⟩ := okWide_slice Try.underlying22 (hval 1 22 v1 rfl rfl)
  have k1 := h1
  have lt1 : ∀ x ∈ p1, x.block < W.heap.size := by obtain ⟨m, hm⟩ := k1; exact DataW.trod_lt m _ _ _ hm
  obtain ⟨z1, w1⟩ := slF0_of (s := 2) Try.underlying22 Try.underlying32 (by kernel_rfl) (by kernel_rfl) rfl (by omega) (flds2 Try.underlying3 Try.underlying3) h1
  clear hA0 hval0
  refine (walk a0 len0 cap0 z0 a1 len1 cap1 z1 W w0 w1).mono fun e W' ⟨he, bel⟩ => ?_
  subst he
  exact ⟨_, rfl, _, _, _, [], _, [], hW', trodAll_mk1 (shut_bool Try.underlying4 _), (trodAll_cons_mk (Below.trod laidOut (by kernel_rfl) (of_decide_eq_true (by kernel_rfl)) k0 bel lt0) (trodAll_cons_mk (Below.trod laidOut (by kernel_rfl) (of_decide_eq_true (by kernel_rfl)) k1 bel lt1) trodAll_mk0)), rfl, bel.frame _, fun h => by cases h⟩

theorem over : Rows.fnExactServeBestRow.holds Try.pinned (OpenSpec.ofChange Rows.fnExactServeBestSpec) :=
  OpenClaim.holds_of_wide 16 Try.f16 rfl rfl rfl rfl rfl rfl rfl ⟨rfl, rfl, rfl, rfl, rfl⟩ rfl rfl rfl rfl rfl (by kernel_rfl) Try.func16 (facts_of signs (by kernel_rfl))
    (of_decide_eq_true (by kernel_rfl)) (by unfold Func.isWrapper; first | (rw [if_pos (by decide +kernel)]; kernel_rfl) | (rw [if_neg (by decide +kernel)]; exact ⟨rfl, rfl⟩))
    (fun os started H enc _ => lifted os started H enc)

theorem proved : Rows.FnExactServeBestSaid := over
#print axioms proved

end Go.Proofs.Ythbkimojbbkeiaa.fnExactServeBest
