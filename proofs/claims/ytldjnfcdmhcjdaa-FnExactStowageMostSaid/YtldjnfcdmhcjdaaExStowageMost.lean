/- For all arguments, the program's StowageMost returns what the reference's returns, and the arguments read afterwards as they read before. No condition. -/
import Derived.Test.YtldjnfcdmhcjdaaLaw
import Derived.Test.YtldjnfcdmhcjdaaCntI
namespace Go.Proofs.Ytldjnfcdmhcjdaa.fnExactStowageMost
open Go.ChangeShapes Go.WideShapes Go.ChangeAt Go.RowKit
set_option linter.unusedVariables false

set_option maxRecDepth 100000 in
set_option maxHeartbeats 1000000 in
theorem walk (a0 : Option Addr) (len0 cap0 : Nat) (xs0 : List Int) (a1 : Option Addr) (len1 cap1 : Nat) (xs1 : List Int) (w : World) (h0 : Sl0 w (.slice a0 len0 cap0) xs0) (h1 : Sl0 w (.slice a1 len1 cap1) xs1) :
    Calls Try.prog 13 #[.slice a0 len0 cap0, .slice a1 len1 cap1] w fun e w' => e = .returned (.bool true) ∧ Below w.heap.size w w' := by
  by_cases hn0 : ¬ len0 ≤ 1048576
  · go_enter Try.func13, Try.ntmps13
    go_wp2
    go_ret
    exact ⟨rfl, Below.refl _ _⟩
  replace hn0 := Nat.le_of_not_lt (fun h => hn0 (Nat.not_le.2 h))
  by_cases hn1 : ¬ len1 ≤ 1048576
  · go_enter Try.func13, Try.ntmps13
    go_wp2
    go_ret
    exact ⟨rfl, Below.refl _ _⟩
  replace hn1 := Nat.le_of_not_lt (fun h => hn1 (Nat.not_le.2 h))
  have B := Below.refl w.heap.size w
  have hv0 := h0.sl hn0
  have ln0 := hv0.len
  have hv1 := h1.sl hn1
  have ln1 := hv1.len
  clear h0 h1
  go_enter Try.func13, Try.ntmps13
  go_wp2_with fail
  refine (toIntS_any _ xs0 _ _ hv0).mono ?_
  rintro e w1 ⟨v1, rfl, b1, r1⟩
  replace B := nextB B b1
  replace hv0 := hv0.old b1
  replace hv1 := hv1.old b1
  have s1 := b1.size
  clear b1
  go_wp2_with fail
  refine (toIntS_any _ xs1 _ _ hv1).mono ?_
  rintro e w2 ⟨v2, rfl, b2, r2⟩
  replace B := nextB B b2
  replace hv0 := hv0.old b2
  replace hv1 := hv1.old b2
  replace r1 := r1.old b2
  have s2 := b2.size
  clear b2
  go_wp2_with fail
  refine (specStowageMost_b v1 v2 xs0 xs1 _ _ _ r1.sl r2.sl ).mono ?_
  rintro e w3 ⟨rfl, b3⟩
  replace B := nextB B b3
  replace hv0 := hv0.old b3
  replace hv1 := hv1.old b3
  replace r1 := r1.old b3
  replace r2 := r2.old b3
  have s3 := b3.size
  clear b3
  clear r1
  clear r2
  go_wp2_with fail
  refine (toIntS_any _ xs0 _ _ hv0).mono ?_
  rintro e w4 ⟨v4, rfl, b4, r4⟩
  replace B := nextB B b4
  replace hv0 := hv0.old b4
  replace hv1 := hv1.old b4
  have s4 := b4.size
  clear b4
  go_wp2_with fail
  refine (toIntS_any _ xs1 _ _ hv1).mono ?_
  rintro e w5 ⟨v5, rfl, b5, r5⟩
  replace B := nextB B b5
  replace hv0 := hv0.old b5
  replace hv1 := hv1.old b5
  replace r4 := r4.old b5
  have s5 := b5.size
  clear b5
  go_wp2_with fail
  refine (implStowageMost_b v4 v5 xs0 xs1 _ _ _ r4.sl r5.sl ).mono ?_
  rintro e w6 ⟨rfl, b6⟩
  replace B := nextB B b6
  replace hv0 := hv0.old b6
  replace hv1 := hv1.old b6
  replace r4 := r4.old b6
  replace r5 := r5.old b6
  have s6 := b6.size
  clear b6
  go_wp2_with fail
  refine (toIntS_any _ xs0 _ _ hv0).mono ?_
  rintro e w7 ⟨v7, rfl, b7, r7⟩
  replace B := nextB B b7
  replace hv0 := hv0.old b7
  replace hv1 := hv1.old b7
  replace r4 := r4.old b7
  replace r5 := r5.old b7
  have s7 := b7.size
  clear b7
  go_wp2_with fail
  refine (eqIntS_is (r := true) v4 v7 _ _ _ _ _ r4.sl r7.sl (by simp)).mono ?_
  rintro e w8 ⟨rfl, b8⟩
  replace b8 := b8.below
  replace B := nextB B b8
  replace hv0 := hv0.old b8
  replace hv1 := hv1.old b8
  replace r4 := r4.old b8
  replace r5 := r5.old b8
  replace r7 := r7.old b8
  have s8 := b8.size
  clear b8
  clear r7
  go_wp2_with fail
  refine (toIntS_any _ xs1 _ _ hv1).mono ?_
  rintro e w9 ⟨v9, rfl, b9, r9⟩
  replace B := nextB B b9
  replace hv0 := hv0.old b9
  replace hv1 := hv1.old b9
  replace r4 := r4.old b9
  replace r5 := r5.old b9
  have s9 := b9.size
  clear b9
  go_wp2_with fail
  refine (eqIntS_is (r := true) v5 v9 _ _ _ _ _ r5.sl r9.sl (by simp)).mono ?_
  rintro e w10 ⟨rfl, b10⟩
  replace b10 := b10.below
  replace B := nextB B b10
  replace hv0 := hv0.old b10
  replace hv1 := hv1.old b10
  replace r4 := r4.old b10
  replace r5 := r5.old b10
  replace r9 := r9.old b10
  have s10 := b10.size
  clear b10
  clear r9
  go_wp2
  go_ret
  exact ⟨rfl, B⟩

set_option maxRecDepth 100000 in
theorem lifted (os : Os) (started : os.Started) (H : Type) (enc : TypeId × Value → H) :
    ReturnsInHanded {} Try.checked os 13 .any (Rows.fnExactStowageMostSpec.pre6 enc Try.prog Try.f13 Rows.fnExactStowageMostRow.domain false) (Rows.fnExactStowageMostSpec.post enc Try.prog Try.f13 false true false false) := by
  refine returnsInHanded_of_change (C := Try.checked) own started (by kernel_rfl) Try.func13
    (ChangeSpec.witness6 (enc := enc) (C := Try.checked) false ⟨#[], #[.slice none 0 0, .slice none 0 0], []⟩ 8 (by kernel_rfl) (by kernel_rfl) (by kernel_rfl) (by kernel_rfl)) ?_
  intro W base args ds gs before hval0 hW hcnd _
  have hval : ∀ (j : Nat) t v, Try.f13.params[j]? = some t → args[j]? = some v → Value.okWide Try.prog W .any base t v := hval0
  have hW' := hW
  obtain ⟨p, q, hA0, hV, rfl, hfz, hnd⟩ := hW
  have hA : DataW.TrodAll enc Try.prog W 0 (fun _ => true) true Try.f13.params.toList args.toList ds p := hA0
  rw [Try.params13] at hA hval
  obtain ⟨v0, vs0, d0, ds0, p0, q0, hargs, rfl, rfl, h0, r0⟩ := trodAll_cons hA
  obtain ⟨v1, vs1, d1, ds1, p1, q1, rfl, rfl, rfl, h1, r1⟩ := trodAll_cons r0
  obtain ⟨rfl, rfl, rfl⟩ := trodAll_nil r1
  obtain rfl : args = #[v0, v1] := by cases args; simp_all
  obtain ⟨rfl, rfl⟩ := trodVars_none hV
  obtain ⟨a0, len0, cap0, rfl⟩ := okWide_slice Try.underlying22 (hval 0 22 v0 rfl rfl)
  have k0 := h0
  have lt0 : ∀ x ∈ p0, x.block < W.heap.size := by obtain ⟨m, hm⟩ := k0; exact DataW.trod_lt m _ _ _ hm
  obtain ⟨z0, w0⟩ := sl0_of h0
  obtain ⟨a1, len1, cap1, rfl⟩ := okWide_slice Try.underlying22 (hval 1 22 v1 rfl rfl)
  have k1 := h1
  have lt1 : ∀ x ∈ p1, x.block < W.heap.size := by obtain ⟨m, hm⟩ := k1; exact DataW.trod_lt m _ _ _ hm
  obtain ⟨z1, w1⟩ := sl0_of h1
  clear hA0 hval0
  refine (walk a0 len0 cap0 z0 a1 len1 cap1 z1 W w0 w1).mono fun e W' ⟨he, bel⟩ => ?_
  subst he
  exact ⟨_, rfl, _, _, _, [], _, [], hW', trodAll_mk1 (shut_bool Try.underlying4 _), (trodAll_cons_mk (Below.trod laidOut (by kernel_rfl) (of_decide_eq_true (by kernel_rfl)) k0 bel lt0) (trodAll_cons_mk (Below.trod laidOut (by kernel_rfl) (of_decide_eq_true (by kernel_rfl)) k1 bel lt1) trodAll_mk0)), rfl, bel.frame _, fun h => by cases h⟩

theorem over : Rows.fnExactStowageMostRow.holds Try.pinned (OpenSpec.ofChange Rows.fnExactStowageMostSpec) :=
  OpenClaim.holds_of_wide 13 Try.f13 rfl rfl rfl rfl rfl rfl rfl ⟨rfl, rfl, rfl, rfl, rfl⟩ rfl rfl rfl rfl rfl (by kernel_rfl) Try.func13 (facts_of signs (by kernel_rfl))
    (of_decide_eq_true (by kernel_rfl)) (by unfold Func.isWrapper; first | (rw [if_pos (by decide +kernel)]; kernel_rfl) | (rw [if_neg (by decide +kernel)]; exact ⟨rfl, rfl⟩))
    (fun os started H enc _ => lifted os started H enc)

theorem proved : Rows.FnExactStowageMostSaid := over
#print axioms proved

end Go.Proofs.Ytldjnfcdmhcjdaa.fnExactStowageMost
