/- For all arguments, the program's OrdersLongest returns what the reference's returns, and the arguments read afterwards as they read before. No condition. -/
import Derived.Test.YtldjnfcdmhcjdaaLaw
import Derived.Test.YtldjnfcdmhcjdaaLongI
namespace Go.Proofs.Ytldjnfcdmhcjdaa.fnExactOrdersLongest
open Go.ChangeShapes Go.WideShapes Go.ChangeAt Go.RowKit
set_option linter.unusedVariables false

set_option maxRecDepth 100000 in
set_option maxHeartbeats 1000000 in
theorem walk (a0 : Option Addr) (len0 cap0 : Nat) (xs0 : List Int) (w : World) (h0 : Sl0 w (.slice a0 len0 cap0) xs0) :
    Calls Try.prog 9 #[.slice a0 len0 cap0] w fun e w' => e = .returned (.bool true) ∧ Below w.heap.size w w' := by
  by_cases hn0 : ¬ len0 ≤ 1048576
  · go_enter Try.func9, Try.ntmps9
    go_wp2
    go_ret
    exact ⟨rfl, Below.refl _ _⟩
  replace hn0 := Nat.le_of_not_lt (fun h => hn0 (Nat.not_le.2 h))
  have B := Below.refl w.heap.size w
  have hv0 := h0.sl hn0
  have ln0 := hv0.len
  clear h0
  go_enter Try.func9, Try.ntmps9
  go_wp2_with fail
  refine (toIntS_any _ xs0 _ _ hv0).mono ?_
  rintro e w1 ⟨v1, rfl, b1, r1⟩
  replace B := nextB B b1
  replace hv0 := hv0.old b1
  have s1 := b1.size
  clear b1
  go_wp2_with fail
  refine (specOrdersLongest_b v1 xs0 _ _ r1.sl ).mono ?_
  rintro e w2 ⟨v2, rfl, b2, r2⟩
  replace B := nextB B b2
  replace hv0 := hv0.old b2
  replace r1 := r1.old b2
  have s2 := b2.size
  clear b2
  clear r1
  go_wp2_with fail
  refine (toIntS_any _ xs0 _ _ hv0).mono ?_
  rintro e w3 ⟨v3, rfl, b3, r3⟩
  replace B := nextB B b3
  replace hv0 := hv0.old b3
  replace r2 := r2.old b3
  have s3 := b3.size
  clear b3
  go_wp2_with fail
  refine (implOrdersLongest_b v3 xs0 _ _ r3.sl ).mono ?_
  rintro e w4 ⟨v4, rfl, b4, r4⟩
  replace B := nextB B b4
  replace hv0 := hv0.old b4
  replace r2 := r2.old b4
  replace r3 := r3.old b4
  have s4 := b4.size
  clear b4
  go_wp2_with fail
  refine (eqIntS_is (r := true) v4 v2 _ _ _ _ _ r4.sl r2.sl (by simp)).mono ?_
  rintro e w5 ⟨rfl, b5⟩
  replace b5 := b5.below
  replace B := nextB B b5
  replace hv0 := hv0.old b5
  replace r2 := r2.old b5
  replace r3 := r3.old b5
  replace r4 := r4.old b5
  have s5 := b5.size
  clear b5
  go_wp2_with fail
  refine (toIntS_any _ xs0 _ _ hv0).mono ?_
  rintro e w6 ⟨v6, rfl, b6, r6⟩
  replace B := nextB B b6
  replace hv0 := hv0.old b6
  replace r2 := r2.old b6
  replace r3 := r3.old b6
  replace r4 := r4.old b6
  have s6 := b6.size
  clear b6
  go_wp2_with fail
  refine (eqIntS_is (r := true) v3 v6 _ _ _ _ _ r3.sl r6.sl (by simp)).mono ?_
  rintro e w7 ⟨rfl, b7⟩
  replace b7 := b7.below
  replace B := nextB B b7
  replace hv0 := hv0.old b7
  replace r2 := r2.old b7
  replace r3 := r3.old b7
  replace r4 := r4.old b7
  replace r6 := r6.old b7
  have s7 := b7.size
  clear b7
  clear r6
  go_wp2_with fail
  refine (markIntS_any v3 _ 1 _ _ _ r3 (by omega) (by omega)).mono ?_
  rintro e w8 ⟨rfl, o8, m8⟩
  replace B := nextO B o8 (by omega)
  replace hv0 := hv0.out o8 (by omega)
  replace r2 := r2.out o8 (by omega)
  replace r4 := r4.out o8 (by omega)
  have s8 := o8.size
  clear r3 o8
  clear m8
  go_wp2_with fail
  refine (eqIntS_is (r := true) v4 v2 _ _ _ _ _ r4.sl r2.sl (by simp)).mono ?_
  rintro e w9 ⟨rfl, b9⟩
  replace b9 := b9.below
  replace B := nextB B b9
  replace hv0 := hv0.old b9
  replace r2 := r2.old b9
  replace r4 := r4.old b9
  have s9 := b9.size
  clear b9
  go_wp2_with fail
  refine (markIntS_any v4 _ 1 _ _ _ r4 (by omega) (by omega)).mono ?_
  rintro e w10 ⟨rfl, o10, m10⟩
  replace B := nextO B o10 (by omega)
  replace hv0 := hv0.out o10 (by omega)
  replace r2 := r2.out o10 (by omega)
  have s10 := o10.size
  clear r4 o10
  go_wp2_with fail
  refine (heldIntS_any _ _ 1 _ _ m10.sl (by omega) (by omega)).mono ?_
  rintro e _ ⟨rfl, rfl⟩
  go_wp2_with fail
  refine (toIntS_any _ xs0 _ _ hv0).mono ?_
  rintro e w12 ⟨v12, rfl, b12, r12⟩
  replace B := nextB B b12
  replace hv0 := hv0.old b12
  replace r2 := r2.old b12
  replace m10 := m10.old b12
  have s12 := b12.size
  clear b12
  go_wp2_with fail
  refine (implOrdersLongest_b v12 xs0 _ _ r12.sl ).mono ?_
  rintro e w13 ⟨v13, rfl, b13, r13⟩
  replace B := nextB B b13
  replace hv0 := hv0.old b13
  replace r2 := r2.old b13
  replace m10 := m10.old b13
  replace r12 := r12.old b13
  have s13 := b13.size
  clear b13
  go_wp2_with fail
  refine (eqIntS_is (r := true) v13 v2 _ _ _ _ _ r13.sl r2.sl (by simp)).mono ?_
  rintro e w14 ⟨rfl, b14⟩
  replace b14 := b14.below
  replace B := nextB B b14
  replace hv0 := hv0.old b14
  replace r2 := r2.old b14
  replace m10 := m10.old b14
  replace r12 := r12.old b14
  replace r13 := r13.old b14
  have s14 := b14.size
  clear b14
  go_wp2_with fail
  refine (heldIntS_any _ _ 1 _ _ m10.sl (by omega) (by omega)).mono ?_
  rintro e _ ⟨rfl, rfl⟩
  go_wp2
  go_ret
  exact ⟨rfl, B⟩

set_option maxRecDepth 100000 in
theorem lifted (os : Os) (started : os.Started) (H : Type) (enc : TypeId × Value → H) :
    ReturnsInHanded {} Try.checked os 9 .any (Rows.fnExactOrdersLongestSpec.pre6 enc Try.prog Try.f9 Rows.fnExactOrdersLongestRow.domain false) (Rows.fnExactOrdersLongestSpec.post enc Try.prog Try.f9 false true false false) := by
  refine returnsInHanded_of_change (C := Try.checked) own started (by kernel_rfl) Try.func9
    (ChangeSpec.witness6 (enc := enc) (C := Try.checked) false ⟨#[], #[.slice none 0 0], []⟩ 8 (by kernel_rfl) (by kernel_rfl) (by kernel_rfl) (by kernel_rfl)) ?_
  intro W base args ds gs before hval0 hW hcnd _
  have hval : ∀ (j : Nat) t v, Try.f9.params[j]? = some t → args[j]? = some v → Value.okWide Try.prog W .any base t v := hval0
  have hW' := hW
  obtain ⟨p, q, hA0, hV, rfl, hfz, hnd⟩ := hW
  have hA : DataW.TrodAll enc Try.prog W 0 (fun _ => true) true Try.f9.params.toList args.toList ds p := hA0
  rw [Try.params9] at hA hval
  obtain ⟨v0, vs0, d0, ds0, p0, q0, hargs, rfl, rfl, h0, r0⟩ := trodAll_cons hA
  obtain ⟨rfl, rfl, rfl⟩ := trodAll_nil r0
  obtain rfl : args = #[v0] := by cases args; simp_all
  obtain ⟨rfl, rfl⟩ := trodVars_none hV
  obtain ⟨a0, len0, cap0, rfl⟩ := okWide_slice Try.underlying22 (hval 0 22 v0 rfl rfl)
  have k0 := h0
  have lt0 : ∀ x ∈ p0, x.block < W.heap.size := by obtain ⟨m, hm⟩ := k0; exact DataW.trod_lt m _ _ _ hm
  obtain ⟨z0, w0⟩ := sl0_of h0
  clear hA0 hval0
  refine (walk a0 len0 cap0 z0 W w0).mono fun e W' ⟨he, bel⟩ => ?_
  subst he
  exact ⟨_, rfl, _, _, _, [], _, [], hW', trodAll_mk1 (shut_bool Try.underlying4 _), (trodAll_cons_mk (Below.trod laidOut (by kernel_rfl) (of_decide_eq_true (by kernel_rfl)) k0 bel lt0) trodAll_mk0), rfl, bel.frame _, fun h => by cases h⟩

theorem over : Rows.fnExactOrdersLongestRow.holds Try.pinned (OpenSpec.ofChange Rows.fnExactOrdersLongestSpec) :=
  OpenClaim.holds_of_wide 9 Try.f9 rfl rfl rfl rfl rfl rfl rfl ⟨rfl, rfl, rfl, rfl, rfl⟩ rfl rfl rfl rfl rfl (by kernel_rfl) Try.func9 (facts_of signs (by kernel_rfl))
    (of_decide_eq_true (by kernel_rfl)) (by unfold Func.isWrapper; first | (rw [if_pos (by decide +kernel)]; kernel_rfl) | (rw [if_neg (by decide +kernel)]; exact ⟨rfl, rfl⟩))
    (fun os started H enc _ => lifted os started H enc)

theorem proved : Rows.FnExactOrdersLongestSaid := over
#print axioms proved

end Go.Proofs.Ytldjnfcdmhcjdaa.fnExactOrdersLongest
