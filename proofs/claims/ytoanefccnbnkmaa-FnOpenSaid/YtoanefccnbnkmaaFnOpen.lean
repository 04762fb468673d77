/- FnOpen: a balance finds the fault. -/
import Derived.Test.YtoanefccnbnkmaaLawD
import Derived.Test.YtoanefccnbnkmaaDrK
import Derived.Test.YtoanefccnbnkmaaCb
import Derived.Test.YtoanefccnbnkmaaFaultLaw
namespace Go.Proofs.Ytoanefccnbnkmaa.fnOpen
open Go.ChangeShapes Go.WideShapes Go.ChangeAt Go.RowKit
set_option linter.unusedVariables false

theorem implFaultFind_is {M O : Int} {F : Bool} (v : Value) (a b : Int) (cs : List Int) (n hi : Nat) (w : World) (hv : SlF 3 w hi v cs n) (ha : -9223372036854775808 ≤ a ∧ a ≤ 9223372036854775807) (h : ffM cs n a b = M ∧ ffO cs n a b = O ∧ ffB cs n a b = F) :
    Calls Try.prog 31 #[v, .int .i64 a, .int .i64 b] w fun e w' => e = .returned (.tuple #[.agg #[.int .i64 M, .int .i64 O], .bool F]) ∧ Below w.heap.size w w' := by
  obtain ⟨rfl, rfl, rfl⟩ := h
  exact implFaultFind_b v a b cs n hi w hv ha
theorem implCableAll_is {r : Int} (v : Value) (cs : List Int) (n hi : Nat) (w : World) (hv : SlF 3 w hi v cs n) (h : allI cs n = r) :
    Calls Try.prog 53 #[v] w fun e w' => e = .returned (.int .i64 r) ∧ Below w.heap.size w w' := h ▸ implCableAll_b v cs n hi w hv
theorem opened {cs : List Int} {n : Nat} {m f A B : Int} (h : opA cs n m f = A ∧ opB cs n m f = B ∧ fvB cs n m f = true) :
    (ffM cs n A B = m ∧ ffO cs n A B = f ∧ ffB cs n A B = true) ∧ (opA (rvC cs n) n (mlTo cs n - m) f = B ∧ opB (rvC cs n) n (mlTo cs n - m) f = A ∧ fvB (rvC cs n) n (mlTo cs n - m) f = true) ∧
    A + B = allI cs n + 2 * f ∧ (0 ≤ A ∧ A ≤ 9000) ∧ (0 ≤ B ∧ B ≤ 9000) ∧ (0 ≤ f ∧ f ≤ 1000) ∧ cabB cs n = true := by
  obtain ⟨rfl, rfl, h⟩ := h
  obtain ⟨hc, hm, hf⟩ := fvB_cab h
  obtain ⟨o1, o2⟩ := op_of h
  obtain ⟨p1, p2⟩ := open_hit h
  have hl := op_bd (cs := cs) (n := n) (m := m) (f := f)
  have ho : ohmsI cs n m = rI cs n m := ohmsI_yes hm.1 (by rw [milesI_yes hc]; exact hm.2)
  refine ⟨?_, ⟨(op_back h).1, (op_back h).2, back_fv h⟩, ?_, ⟨hl.1, hl.2.1⟩, hl.2.2, hf, hc⟩
  · unfold ffM ffO ffB
    rw [p2]
    refine ⟨by rw [if_pos hm.1], ?_, by rw [decide_eq_true hm.1]⟩
    rw [if_pos hm.1, o1, ho]; omega
  · rw [o1, o2, allI_yes hc]; omega

set_option maxRecDepth 100000 in
set_option maxHeartbeats 4000000 in
theorem walk (a0 : Option Addr) (len0 cap0 : Nat) (z0 : Unit) (w : World) (h0 : By w w.heap.size (.slice a0 len0 cap0) len0) :
    Calls Try.prog 14 #[.slice a0 len0 cap0] w fun e w' => e = .returned (.bool true) ∧ Below w.heap.size w w' := by
  by_cases hn : len0 ≤ 1048576
  · have hlt : decide ((1048576 : Int) < (len0 : Int)) = false := by simp; omega
    go_enter Try.func14, Try.ntmps14
    go_wp2_with fail
    refine (drawFaultOpen_any _ len0 w.heap.size w h0 (Nat.le_refl _)).mono ?_
    rintro e w1 ⟨r, m, f, rfl, hd⟩
    obtain ⟨cs, k, b1, s1⟩ := hd.out
    obtain ⟨bb, x0, x1⟩ := box2 w1 m f 41
    have B1 := Lib.hid (nextW b1 bb)
    have S1 := Lib.hid (s1.old bb)
    obtain ⟨A, hA⟩ : ∃ A, opA cs k m f = A := ⟨_, rfl⟩
    obtain ⟨B, hB⟩ : ∃ B, opB cs k m f = B := ⟨_, rfl⟩
    obtain ⟨F, hF⟩ : ∃ F, fvB cs k m f = F := ⟨_, rfl⟩
    have HO := Lib.hid (And.intro hA (And.intro hB hF))
    have e1 : (A != A) = false := by simp
    have e2 : (B != B) = false := by simp
    have e3 : (F != F) = false := by simp
    clear hd b1 s1 bb hA hB hF
    go_wp2_with fail
    refine (implFaultOpen_is _ m f cs k _ _ S1.out HO.out).mono ?_
    rintro e w2 ⟨rfl, b⟩
    replace B1 := Lib.hid (nextW B1.out b)
    replace S1 := Lib.hid (S1.out.old b)
    replace x0 := cellB x0 b
    replace x1 := cellB x1 b
    clear b
    go_wp2_with fail
    refine (specFaultOpen_is2 _ m f cs k _ _ S1.out HO.out).mono ?_
    rintro e w3 ⟨rfl, b⟩
    replace B1 := Lib.hid (nextW B1.out b)
    replace S1 := Lib.hid (S1.out.old b)
    replace x0 := cellB x0 b
    replace x1 := cellB x1 b
    clear b
    cases F with
    | false =>
      have e4 : (A == A) = true := by simp
      have e5 : (B == B) = true := by simp
      go_wp2
      go_ret
      exact ⟨rfl, B1.out⟩
    | true =>
      obtain ⟨g1, g2, g3, g4, g5, g6, g7⟩ := opened HO.out
      have HV := Lib.hid HO.out.2.2
      have G1 := Lib.hid g1
      have G2 := Lib.hid g2
      have HC := Lib.hid g7
      obtain ⟨V, hV⟩ : ∃ V, allI cs k = V := ⟨_, rfl⟩
      rw [hV] at g3
      have HVV := Lib.hid hV
      obtain ⟨M, hM⟩ : ∃ M, mlTo cs k - m = M := ⟨_, rfl⟩
      have HM := Lib.hid hM
      rw [hM] at G2
      have hw1 : IntKind.i64.wrap (A + B) = A + B := IntWalk.i64_in _ (by omega)
      have hw2 : IntKind.i64.wrap (2 * f) = 2 * f := IntWalk.i64_in _ (by omega)
      have hw3 : IntKind.i64.wrap (V + 2 * f) = V + 2 * f := IntWalk.i64_in _ (by omega)
      have q1 : (A + B == V + 2 * f) = true := by rw [beq_iff_eq]; exact g3
      have ha : -9223372036854775808 ≤ A ∧ A ≤ 9223372036854775807 := by omega
      clear g1 g2 g7 hV hM HO
      go_wp2_with fail
      refine (implFaultFind_is _ A B cs k _ _ S1.out ha G1.out).mono ?_
      rintro e w4 ⟨rfl, b⟩
      obtain ⟨bb, y0, y1⟩ := box2 w4 m f 41
      replace B1 := Lib.hid (nextW (nextW B1.out b) bb)
      replace S1 := Lib.hid ((S1.out.old b).old bb)
      replace x0 := cellB (cellB x0 b) bb
      replace x1 := cellB (cellB x1 b) bb
      clear b bb
      go_wp2_with fail
      refine (implCableBack_b _ cs k _ _ S1.out HC.out).mono ?_
      rintro e w5 ⟨v5, rfl, b, s5⟩
      replace B1 := Lib.hid (nextW B1.out b.out)
      replace S1 := Lib.hid (S1.out.old b.out)
      replace x0 := cellB x0 b.out
      replace x1 := cellB x1 b.out
      replace y0 := cellB y0 b.out
      replace y1 := cellB y1 b.out
      clear b
      go_wp2_with fail
      refine (implFaultBack_b _ m f cs k _ _ S1.out HV.out).mono ?_
      rintro e w6 ⟨rfl, b⟩
      rw [HM.out]
      obtain ⟨bb, u0, u1⟩ := box2 w6 M f 41
      replace B1 := Lib.hid (nextW (nextW B1.out b) bb)
      replace S1 := Lib.hid ((S1.out.old b).old bb)
      replace s5 := Lib.hid ((s5.out.old b).old bb)
      replace x0 := cellB (cellB x0 b) bb
      replace x1 := cellB (cellB x1 b) bb
      replace y0 := cellB (cellB y0 b) bb
      replace y1 := cellB (cellB y1 b) bb
      clear b bb
      go_wp2_with fail
      refine (implFaultOpen_is _ M f (rvC cs k) k _ _ s5.out G2.out).mono ?_
      rintro e w7 ⟨rfl, b⟩
      replace B1 := Lib.hid (nextW B1.out b)
      replace S1 := Lib.hid (S1.out.old b)
      replace x0 := cellB x0 b
      replace x1 := cellB x1 b
      replace y0 := cellB y0 b
      replace y1 := cellB y1 b
      clear b u0 u1 s5
      have p0 := cell_regrown x0
      have p1 := cell_regrown x1
      have r0 := cell_regrown y0
      have r1 := cell_regrown y1
      have e4 : (A == A) = true := by simp
      have e5 : (B == B) = true := by simp
      go_wp2_with fail
      refine wp_region_quiet_below (by kernel_rfl) (by kernel_rfl) ?_
      repeat (any_goals (first | go_big_quiet_step (((go_at_call 53; exact Calls.regrown_of (implCableAll_is _ cs k _ _ (S1.out.old (below_regrown _ _ _)) HVV.out)))) | quiet_step (((go_at_call 53; exact Calls.regrown_of (implCableAll_is _ cs k _ _ (S1.out.old (below_regrown _ _ _)) HVV.out))))))
      refine wpQuiet_nil ?_
      intro _ hw'
      obtain ⟨⟨dq, osq⟩, hw''⟩ := hw'
      subst hw''
      have bq := below_regrown (w7) dq osq
      revert bq
      generalize Go.Sort.grow (redrawn (w7) dq) osq = wq
      intro bq
      clear x0 x1 y0 y1 p0 p1 r0 r1
      go_wp2_with fail
      go_ret
      exact ⟨rfl, nextW B1.out bq⟩
  · have hlt : decide ((1048576 : Int) < (len0 : Int)) = true := by simp; omega
    go_enter Try.func14, Try.ntmps14
    go_wp2
    go_ret
    exact ⟨rfl, Below.refl _ _⟩

set_option maxRecDepth 100000 in
theorem lifted (os : Os) (started : os.Started) (H : Type) (enc : TypeId × Value → H) :
    ReturnsInHanded {} Try.checked os 14 .any (Rows.fnOpenSpec.pre6 enc Try.prog Try.f14 Rows.fnOpenRow.domain false) (Rows.fnOpenSpec.post enc Try.prog Try.f14 false true false false) := by
  refine returnsInHanded_of_change (C := Try.checked) own started (by kernel_rfl) Try.func14
    (ChangeSpec.witness6 (enc := enc) (C := Try.checked) false ⟨#[], #[.slice none 0 0], []⟩ 8 (by kernel_rfl) (by kernel_rfl) (by kernel_rfl) (by kernel_rfl)) ?_
  intro W base args ds gs before hval0 hW hcnd _
  have hval : ∀ (j : Nat) t v, Try.f14.params[j]? = some t → args[j]? = some v → Value.okWide Try.prog W .any base t v := hval0
  have hW' := hW
  obtain ⟨p, q, hA0, hV, rfl, hfz, hnd⟩ := hW
  have hA : DataW.TrodAll enc Try.prog W 0 (fun _ => true) true Try.f14.params.toList args.toList ds p := hA0
  rw [Try.params14] at hA hval
  obtain ⟨v0, vs0, d0, ds0, p0, q0, hargs, rfl, rfl, h0, r0⟩ := trodAll_cons hA
  obtain ⟨rfl, rfl, rfl⟩ := trodAll_nil r0
  obtain rfl : args = #[v0] := by cases args; simp_all
  obtain ⟨rfl, rfl⟩ := trodVars_none hV
  obtain ⟨a0, len0, cap0, rfl⟩ := okWide_slice Try.underlying48 (hval 0 48 v0 rfl rfl)
  have k0 := h0
  have lt0 : ∀ x ∈ p0, x.block < W.heap.size := by obtain ⟨m, hm⟩ := k0; exact DataW.trod_lt m _ _ _ hm
  obtain ⟨z0, w0⟩ := by0_of h0
  clear hA0 hval0
  refine (walk a0 len0 cap0 z0 W w0).mono fun e W' ⟨he, bel⟩ => ?_
  subst he
  exact ⟨_, rfl, _, _, _, [], _, [], hW', trodAll_mk1 (shut_bool Try.underlying4 _), (trodAll_cons_mk (Below.trod laidOut (by kernel_rfl) (of_decide_eq_true (by kernel_rfl)) k0 bel lt0) trodAll_mk0), rfl, bel.frame _, fun h => by cases h⟩

theorem over : Rows.fnOpenRow.holds Try.pinned (OpenSpec.ofChange Rows.fnOpenSpec) :=
  OpenClaim.holds_of_wide 14 Try.f14 rfl rfl rfl rfl rfl rfl rfl ⟨rfl, rfl, rfl, rfl, rfl⟩ rfl rfl rfl rfl rfl (by kernel_rfl) Try.func14 (facts_of signs (by kernel_rfl))
    (of_decide_eq_true (by kernel_rfl)) (by unfold Func.isWrapper; first | (rw [if_pos (by decide +kernel)]; kernel_rfl) | (rw [if_neg (by decide +kernel)]; exact ⟨rfl, rfl⟩))
    (fun os started H enc _ => lifted os started H enc)

theorem proved : Rows.FnOpenSaid := over
#print axioms proved

end Go.Proofs.Ytoanefccnbnkmaa.fnOpen
