/- FnFind: a fault that is found is the one measured. -/
import Derived.Test.YtoanefccnbnkmaaLawD
import Derived.Test.YtoanefccnbnkmaaDrG
import Derived.Test.YtoanefccnbnkmaaFind
namespace Go.Proofs.Ytoanefccnbnkmaa.fnFind
open Go.ChangeShapes Go.WideShapes Go.ChangeAt Go.RowKit
set_option linter.unusedVariables false

theorem implFaultFind_is {M O : Int} {F : Bool} (v : Value) (a b : Int) (cs : List Int) (n hi : Nat) (w : World) (hv : SlF 3 w hi v cs n) (ha : -9223372036854775808 ≤ a ∧ a ≤ 9223372036854775807) (h : ffM cs n a b = M ∧ ffO cs n a b = O ∧ ffB cs n a b = F) :
    Calls Try.prog 31 #[v, .int .i64 a, .int .i64 b] w fun e w' => e = .returned (.tuple #[.agg #[.int .i64 M, .int .i64 O], .bool F]) ∧ Below w.heap.size w w' := by
  obtain ⟨rfl, rfl, rfl⟩ := h
  exact implFaultFind_b v a b cs n hi w hv ha
theorem specFaultFind_is {M O : Int} {F : Bool} (v : Value) (a b : Int) (cs : List Int) (n hi : Nat) (w : World) (hv : SlF 3 w hi v cs n) (h : ffM cs n a b = M ∧ ffO cs n a b = O ∧ ffB cs n a b = F) :
    Calls Try.prog 30 #[v, .int .i64 a, .int .i64 b] w fun e w' => e = .returned (.tuple #[.agg #[.int .i64 M, .int .i64 O], .bool F]) ∧ Below w.heap.size w w' := by
  obtain ⟨rfl, rfl, rfl⟩ := h
  exact specFaultFind_b v a b cs n hi w hv

set_option maxRecDepth 100000 in
set_option maxHeartbeats 2000000 in
theorem walk (a0 : Option Addr) (len0 cap0 : Nat) (z0 : Unit) (w : World) (h0 : By w w.heap.size (.slice a0 len0 cap0) len0) :
    Calls Try.prog 8 #[.slice a0 len0 cap0] w fun e w' => e = .returned (.bool true) ∧ Below w.heap.size w w' := by
  by_cases hn : len0 ≤ 1048576
  · have hlt : decide ((1048576 : Int) < (len0 : Int)) = false := by simp; omega
    go_enter Try.func8, Try.ntmps8
    go_wp2_with fail
    refine (drawFaultFind_any _ len0 w.heap.size w h0 (Nat.le_refl _)).mono ?_
    rintro e w1 ⟨r, a, b, rfl, hd⟩
    obtain ⟨cs, k, b1, s1, ha, hb⟩ := hd.out
    have B1 := Lib.hid b1
    have S1 := Lib.hid s1
    have HA : Hid ((-9223372036854775808 ≤ a ∧ a ≤ 9223372036854775807) ∧ (-9223372036854775808 ≤ a + 2 ∧ a + 2 ≤ 9223372036854775807)) := Lib.hid (by omega)
    clear hd b1 s1
    obtain ⟨M, hM⟩ : ∃ M, ffM cs k a b = M := ⟨_, rfl⟩
    obtain ⟨O, hO⟩ : ∃ O, ffO cs k a b = O := ⟨_, rfl⟩
    obtain ⟨F, hF⟩ : ∃ F, ffB cs k a b = F := ⟨_, rfl⟩
    have H1 := Lib.hid (And.intro hM (And.intro hO hF))
    go_wp2_with fail
    refine (implFaultFind_is _ a b cs k _ _ S1.out HA.out.1 H1.out).mono ?_
    rintro e w2 ⟨rfl, b2⟩
    obtain ⟨x0, x1, x2⟩ := box2 w2 M O 41
    have B2 := Lib.hid (nextW (nextW B1.out b2) x0)
    have S2 := Lib.hid ((S1.out.old b2).old x0)
    clear b2 x0 B1 S1
    go_wp2_with fail
    refine (specFaultFind_is _ a b cs k _ _ S2.out H1.out).mono ?_
    rintro e w3 ⟨rfl, b3⟩
    obtain ⟨y0, y1, y2⟩ := box2 w3 M O 41
    have B3 := Lib.hid (nextW (nextW B2.out b3) y0)
    have S3 := Lib.hid ((S2.out.old b3).old y0)
    replace x1 := cellB (cellB x1 b3) y0
    replace x2 := cellB (cellB x2 b3) y0
    clear b3 y0 B2 S2
    cases F with
    | false =>
      clear hM hO hF
      go_wp2
      go_ret
      exact ⟨rfl, B3.out⟩
    | true =>
      have hp : 0 ≤ fdM cs k a b := of_decide_eq_true hF
      have e1 : M = fdM cs k a b := by rw [← hM]; unfold ffM; rw [if_pos hp]
      have e2 : O = a - ohmsI cs k (fdM cs k a b) := by rw [← hO]; unfold ffO; rw [if_pos hp]
      have HP : Hid (opA cs k M O = a ∧ opB cs k M O = b ∧ fvB cs k M O = true) := Lib.hid (by
        obtain ⟨p1, p2, p3⟩ := find_op hp
        rw [e1, e2]; exact ⟨p2, p3, p1⟩)
      obtain ⟨M', hM'⟩ : ∃ M, ffM cs k (a + 2) b = M := ⟨_, rfl⟩
      obtain ⟨O', hO'⟩ : ∃ O, ffO cs k (a + 2) b = O := ⟨_, rfl⟩
      obtain ⟨F', hF'⟩ : ∃ F, ffB cs k (a + 2) b = F := ⟨_, rfl⟩
      have H2 := Lib.hid (And.intro hM' (And.intro hO' hF'))
      have HN : Hid (F' = true → M < M') := Lib.hid (by
        intro h
        rw [h] at hF'
        have hp' : 0 ≤ fdM cs k (a + 2) b := of_decide_eq_true hF'
        have e3 : M' = fdM cs k (a + 2) b := by rw [← hM']; unfold ffM; rw [if_pos hp']
        rw [e1, e3]; exact find_next hp hp')
      clear hM hO hF hp e1 e2 hM' hO' hF'
      go_wp2_with fail
      refine (implFaultOpen_is _ M O cs k _ _ S3.out HP.out).mono ?_
      rintro e w4 ⟨rfl, b4⟩
      have B4 := Lib.hid (nextW B3.out b4)
      have S4 := Lib.hid (S3.out.old b4)
      replace x1 := cellB x1 b4
      replace x2 := cellB x2 b4
      clear b4 y1 y2 B3 S3
      go_wp2_with fail
      refine (implFaultFind_is _ (a + 2) b cs k _ _ S4.out HA.out.2 H2.out).mono ?_
      rintro e w5 ⟨rfl, b5⟩
      obtain ⟨y0, y1, y2⟩ := box2 w5 M' O' 41
      have B5 := Lib.hid (nextW (nextW B4.out b5) y0)
      replace x1 := cellB (cellB x1 b5) y0
      replace x2 := cellB (cellB x2 b5) y0
      clear b5 y0 B4 S4
      cases F' with
      | false =>
        go_wp2
        go_ret
        exact ⟨rfl, B5.out⟩
      | true =>
        have hd : decide (M < M') = true := decide_eq_true (HN.out rfl)
        go_wp2
        go_ret
        exact ⟨rfl, B5.out⟩
  · have hlt : decide ((1048576 : Int) < (len0 : Int)) = true := by simp; omega
    go_enter Try.func8, Try.ntmps8
    go_wp2
    go_ret
    exact ⟨rfl, Below.refl _ _⟩

set_option maxRecDepth 100000 in
theorem lifted (os : Os) (started : os.Started) (H : Type) (enc : TypeId × Value → H) :
    ReturnsInHanded {} Try.checked os 8 .any (Rows.fnFindSpec.pre6 enc Try.prog Try.f8 Rows.fnFindRow.domain false) (Rows.fnFindSpec.post enc Try.prog Try.f8 false true false false) := by
  refine returnsInHanded_of_change (C := Try.checked) own started (by kernel_rfl) Try.func8
    (ChangeSpec.witness6 (enc := enc) (C := Try.checked) false ⟨#[], #[.slice none 0 0], []⟩ 8 (by kernel_rfl) (by kernel_rfl) (by kernel_rfl) (by kernel_rfl)) ?_
  intro W base args ds gs before hval0 hW hcnd _
  have hval : ∀ (j : Nat) t v, Try.f8.params[j]? = some t → args[j]? = some v → Value.okWide Try.prog W .any base t v := hval0
  have hW' := hW
  obtain ⟨p, q, hA0, hV, rfl, hfz, hnd⟩ := hW
  have hA : DataW.TrodAll enc Try.prog W 0 (fun _ => true) true Try.f8.params.toList args.toList ds p := hA0
  rw [Try.params8] at hA hval
  obtain ⟨v0, vs0, d0, ds0, p0, q0, hargs, rfl, rfl, h0, r0⟩ := trodAll_cons hA
  obtain ⟨rfl, rfl, rfl⟩ := trodAll_nil r0
  obtain rfl : args = #[v0] := by cases args; simp_all
  obtain ⟨rfl, rfl⟩ := trodVars_none hV
  obtain ⟨a0, len0, cap0, rfl⟩ := okWide_slice Try.underlying48 (hval 0 48 v0 rfl rfl)
  have k0 := h0
  have lt0 : ∀ x ∈ p0, x.block < W.heap.size := by obtain ⟨m, hm⟩ := k0; exact DataW.trod_lt m _ _ _ hm
  obtain ⟨z0, w0⟩ := by0_of h0
  clear hA0 hval0
  refine (walk a0 len0 cap0 z0 W w0).mono fun e W' ⟨he, bel⟩ => ?_
  subst he
  exact ⟨_, rfl, _, _, _, [], _, [], hW', trodAll_mk1 (shut_bool Try.underlying4 _), (trodAll_cons_mk (Below.trod laidOut (by kernel_rfl) (of_decide_eq_true (by kernel_rfl)) k0 bel lt0) trodAll_mk0), rfl, bel.frame _, fun h => by cases h⟩

theorem over : Rows.fnFindRow.holds Try.pinned (OpenSpec.ofChange Rows.fnFindSpec) :=
  OpenClaim.holds_of_wide 8 Try.f8 rfl rfl rfl rfl rfl rfl rfl ⟨rfl, rfl, rfl, rfl, rfl⟩ rfl rfl rfl rfl rfl (by kernel_rfl) Try.func8 (facts_of signs (by kernel_rfl))
    (of_decide_eq_true (by kernel_rfl)) (by unfold Func.isWrapper; first | (rw [if_pos (by decide +kernel)]; kernel_rfl) | (rw [if_neg (by decide +kernel)]; exact ⟨rfl, rfl⟩))
    (fun os started H enc _ => lifted os started H enc)

theorem proved : Rows.FnFindSaid := over
#print axioms proved

end Go.Proofs.Ytoanefccnbnkmaa.fnFind
