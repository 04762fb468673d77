/- For all arguments, the program's OrdersAgree returns what the reference's returns, and the arguments read afterwards as they read before. No condition. -/
import Derived.Test.YtldjnfcdmhcjdaaLaw
import Derived.Test.YtldjnfcdmhcjdaaOrd2
namespace Go.Proofs.Ytldjnfcdmhcjdaa.fnExactOrdersAgree
open Go.ChangeShapes Go.WideShapes Go.ChangeAt Go.RowKit
set_option linter.unusedVariables false

set_option maxRecDepth 100000 in
set_option maxHeartbeats 1000000 in
theorem walk (a0 : Option Addr) (len0 cap0 : Nat) (xs0 : List Int) (a1 : Int) (a2 : Int) (w : World) (h0 : Sl0 w (.slice a0 len0 cap0) xs0) (h1 : -9223372036854775808 ≤ a1 ∧ a1 ≤ 9223372036854775807) (h2 : -9223372036854775808 ≤ a2 ∧ a2 ≤ 9223372036854775807) :
    Calls Try.prog 4 #[.slice a0 len0 cap0, .int .i64 a1, .int .i64 a2] w fun e w' => e = .returned (.bool true) ∧ Below w.heap.size w w' := by
  by_cases hn0 : ¬ len0 ≤ 1048576
  · go_enter Try.func4, Try.ntmps4
    go_wp2
    go_ret
    exact ⟨rfl, Below.refl _ _⟩
  replace hn0 := Nat.le_of_not_lt (fun h => hn0 (Nat.not_le.2 h))
  have B := Below.refl w.heap.size w
  have hv0 := h0.sl hn0
  clear h0
  go_enter Try.func4, Try.ntmps4
  go_wp2_with fail
  refine (toIntS_any _ xs0 _ _ hv0).mono ?_
  rintro e w1 ⟨v1, rfl, b1, r1⟩
  replace B := nextB B b1
  replace hv0 := hv0.old b1
  have s1 := b1.size
  clear b1
  go_wp2_with fail
  refine (specOrdersAgree_b v1 a1 a2 xs0 _ _ r1.sl h1 h2).mono ?_
  rintro e w2 ⟨rfl, b2⟩
  replace B := nextB B b2
  replace hv0 := hv0.old b2
  replace r1 := r1.old b2
  have s2 := b2.size
  clear b2
  clear r1
  go_wp2_with fail
  refine (toIntS_any _ xs0 _ _ hv0).mono ?_
  rintro e w3 ⟨v3, rfl, b3, r3⟩
  replace B := nextB B b3
  replace hv0 := hv0.old b3
  have s3 := b3.size
  clear b3
  go_wp2_with fail
  refine (implOrdersAgree_b v3 a1 a2 xs0 _ _ r3.sl h1 h2).mono ?_
  rintro e w4 ⟨rfl, b4⟩
  replace B := nextB B b4
  replace hv0 := hv0.old b4
  replace r3 := r3.old b4
  have s4 := b4.size
  clear b4
  go_wp2_with fail
  refine (toIntS_any _ xs0 _ _ hv0).mono ?_
  rintro e w5 ⟨v5, rfl, b5, r5⟩
  replace B := nextB B b5
  replace hv0 := hv0.old b5
  replace r3 := r3.old b5
  have s5 := b5.size
  clear b5
  go_wp2_with fail
  refine (eqIntS_is (r := true) v3 v5 _ _ _ _ _ r3.sl r5.sl (by simp)).mono ?_
  rintro e w6 ⟨rfl, b6⟩
  replace b6 := b6.below
  replace B := nextB B b6
  replace hv0 := hv0.old b6
  replace r3 := r3.old b6
  replace r5 := r5.old b6
  have s6 := b6.size
  clear b6
  clear r5
  go_wp2
  go_ret
  exact ⟨rfl, B⟩

set_option maxRecDepth 100000 in
theorem lifted (os : Os) (started : os.Started) (H : Type) (enc : TypeId × Value → H) :
    ReturnsInHanded {} Try.checked os 4 .any (Rows.fnExactOrdersAgreeSpec.pre6 enc Try.prog Try.f4 Rows.fnExactOrdersAgreeRow.domain false) (Rows.fnExactOrdersAgreeSpec.post enc Try.prog Try.f4 false true false false) := by
  refine returnsInHanded_of_change (C := Try.checked) own started (by kernel_rfl) Try.func4
    (ChangeSpec.witness6 (enc := enc) (C := Try.checked) false ⟨#[], #[.slice none 0 0, .int .i64 0, .int .i64 0], []⟩ 8 (by kernel_rfl) (by kernel_rfl) (by kernel_rfl) (by kernel_rfl)) ?_
  intro W base args ds gs before hval0 hW hcnd _
  have hval : ∀ (j : Nat) t v, Try.f4.params[j]? = some t → args[j]? = some v → Value.okWide Try.prog W .any base t v := hval0
  have hW' := hW
  obtain ⟨p, q, hA0, hV, rfl, hfz, hnd⟩ := hW
  have hA : DataW.TrodAll enc Try.prog W 0 (fun _ => true) true Try.f4.params.toList args.toList ds p := hA0
  rw [Try.params4] at hA hval
  obtain ⟨v0, vs0, d0, ds0, p0, q0, hargs, rfl, rfl, h0, r0⟩ := trodAll_cons hA
  obtain ⟨v1, vs1, d1, ds1, p1, q1, rfl, rfl, rfl, h1, r1⟩ := trodAll_cons r0
  obtain ⟨v2, vs2, d2, ds2, p2, q2, rfl, rfl, rfl, h2, r2⟩ := trodAll_cons r1
  obtain ⟨rfl, rfl, rfl⟩ := trodAll_nil r2
  obtain rfl : args = #[v0, v1, v2] := by cases args; simp_all
  obtain ⟨rfl, rfl⟩ := trodVars_none hV
  obtain ⟨a0, len0, cap0, rfl⟩ := okWide_slice Try.underlying22 (hval 0 22 v0 rfl rfl)
  have k0 := h0
  have lt0 : ∀ x ∈ p0, x.block < W.heap.size := by obtain ⟨m, hm⟩ := k0; exact DataW.trod_lt m _ _ _ hm
  obtain ⟨z0, w0⟩ := sl0_of h0
  obtain ⟨a1, rfl, rfl, rfl, w1⟩ := open_int Try.underlying3 (hval 1 3 v1 rfl rfl) h1
  have b1 : -9223372036854775808 ≤ a1 ∧ a1 ≤ 9223372036854775807 := by simpa [Lit.wf, IntKind.min, IntKind.max, IntKind.signed, IntKind.bits] using w1
  obtain ⟨a2, rfl, rfl, rfl, w2⟩ := open_int Try.underlying3 (hval 2 3 v2 rfl rfl) h2
  have b2 : -9223372036854775808 ≤ a2 ∧ a2 ≤ 9223372036854775807 := by simpa [Lit.wf, IntKind.min, IntKind.max, IntKind.signed, IntKind.bits] using w2
  clear hA0 hval0
  refine (walk a0 len0 cap0 z0 a1 a2 W w0 b1 b2).mono fun e W' ⟨he, bel⟩ => ?_
  subst he
  exact ⟨_, rfl, _, _, _, [], _, [], hW', trodAll_mk1 (shut_bool Try.underlying4 _), (trodAll_cons_mk (Below.trod laidOut (by kernel_rfl) (of_decide_eq_true (by kernel_rfl)) k0 bel lt0) (trodAll_cons_mk (shut_int Try.underlying3 w1) (trodAll_cons_mk (shut_int Try.underlying3 w2) trodAll_mk0))), rfl, bel.frame _, fun h => by cases h⟩

theorem over : Rows.fnExactOrdersAgreeRow.holds Try.pinned (OpenSpec.ofChange Rows.fnExactOrdersAgreeSpec) :=
  OpenClaim.holds_of_wide 4 Try.f4 rfl rfl rfl rfl rfl rfl rfl ⟨rfl, rfl, rfl, rfl, rfl⟩ rfl rfl rfl rfl rfl (by kernel_rfl) Try.func4 (facts_of signs (by kernel_rfl))
    (of_decide_eq_true (by kernel_rfl)) (by unfold Func.isWrapper; first | (rw [if_pos (by decide +kernel)]; kernel_rfl) | (rw [if_neg (by decide +kernel)]; exact ⟨rfl, rfl⟩))
    (fun os started H enc _ => lifted os started H enc)

theorem proved : Rows.FnExactOrdersAgreeSaid := over
#print axioms proved

end Go.Proofs.Ytldjnfcdmhcjdaa.fnExactOrdersAgree
