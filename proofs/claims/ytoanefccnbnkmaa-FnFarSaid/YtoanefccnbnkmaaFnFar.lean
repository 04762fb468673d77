/- FnFar: what is measured from the far end. -/
import Derived.Test.YtoanefccnbnkmaaLawD
import Derived.Test.YtoanefccnbnkmaaDrH
import Derived.Test.YtoanefccnbnkmaaEarth
import Derived.Test.YtoanefccnbnkmaaCabI
import Derived.Test.YtoanefccnbnkmaaFaultLaw
import Derived.Lib.QuietBelow
namespace Go.Proofs.Ytoanefccnbnkmaa.fnFar
open Go.ChangeShapes Go.WideShapes Go.ChangeAt Go.RowKit
set_option linter.unusedVariables false

theorem implFaultFar_is {T L : Int} {p : Bool} (v : Value) (m f : Int) (cs : List Int) (n hi : Nat) (w : World) (hv : SlF 3 w hi v cs n) (h : faT cs n m f = T ∧ faL cs n m f = L ∧ fvB cs n m f = p) :
    Calls Try.prog 48 #[v, .agg #[.int .i64 m, .int .i64 f]] w fun e w' => e = .returned (.tuple #[.agg #[.int .i64 T, .int .i64 L], .bool p]) ∧ Below w.heap.size w w' := by
  obtain ⟨rfl, rfl, rfl⟩ := h
  exact implFaultFar_b v m f cs n hi w hv
theorem specFaultFar_is {T L : Int} {p : Bool} (v : Value) (m f : Int) (cs : List Int) (n hi : Nat) (w : World) (hv : SlF 3 w hi v cs n) (h : faT cs n m f = T ∧ faL cs n m f = L ∧ fvB cs n m f = p) :
    Calls Try.prog 47 #[v, .agg #[.int .i64 m, .int .i64 f]] w fun e w' => e = .returned (.tuple #[.agg #[.int .i64 T, .int .i64 L], .bool p]) ∧ Below w.heap.size w w' := by
  obtain ⟨rfl, rfl, rfl⟩ := h
  exact specFaultFar_b v m f cs n hi w hv
theorem implCableAll_is {r : Int} (v : Value) (cs : List Int) (n hi : Nat) (w : World) (hv : SlF 3 w hi v cs n) (h : allI cs n = r) :
    Calls Try.prog 53 #[v] w fun e w' => e = .returned (.int .i64 r) ∧ Below w.heap.size w w' := h ▸ implCableAll_b v cs n hi w hv
theorem implCableOhms_is' {r : Int} (v : Value) (m : Int) (cs : List Int) (n hi : Nat) (w : World) (hv : SlF 3 w hi v cs n) (h : ohmsI cs n m = r) :
    Calls Try.prog 54 #[v, .int .i64 m] w fun e w' => e = .returned (.int .i64 r) ∧ Below w.heap.size w w' := h ▸ implCableOhms_b v m cs n hi w hv

set_option maxRecDepth 100000 in
set_option maxHeartbeats 2000000 in
theorem walk (a0 : Option Addr) (len0 cap0 : Nat) (z0 : Unit) (w : World) (h0 : By w w.heap.size (.slice a0 len0 cap0) len0) :
    Calls Try.prog 13 #[.slice a0 len0 cap0] w fun e w' => e = .returned (.bool true) ∧ Below w.heap.size w w' := by
  by_cases hn : len0 ≤ 1048576
  · have hlt : decide ((1048576 : Int) < (len0 : Int)) = false := by simp; omega
    go_enter Try.func13, Try.ntmps13
    go_wp2_with fail
    refine (drawFaultFar_any _ len0 w.heap.size w h0 (Nat.le_refl _)).mono ?_
    rintro e w1 ⟨r, m, f, rfl, hd⟩
    obtain ⟨cs, k, b1, s1⟩ := hd.out
    obtain ⟨x0, x1, x2⟩ := box2 w1 m f 41
    have B1 := Lib.hid (nextW b1 x0)
    have S1 := Lib.hid (s1.old x0)
    clear hd b1 s1 x0
    obtain ⟨T, hT⟩ : ∃ T, faT cs k m f = T := ⟨_, rfl⟩
    obtain ⟨L, hL⟩ : ∃ L, faL cs k m f = L := ⟨_, rfl⟩
    obtain ⟨F, hF⟩ : ∃ F, fvB cs k m f = F := ⟨_, rfl⟩
    have H1 := Lib.hid (And.intro hT (And.intro hL hF))
    go_wp2_with fail
    refine (implFaultFar_is _ m f cs k _ _ S1.out H1.out).mono ?_
    rintro e w2 ⟨rfl, b2⟩
    obtain ⟨y0, y1, y2⟩ := box2 w2 T L 31
    have B2 := Lib.hid (nextW (nextW B1.out b2) y0)
    have S2 := Lib.hid ((S1.out.old b2).old y0)
    replace x1 := cellB (cellB x1 b2) y0
    replace x2 := cellB (cellB x2 b2) y0
    clear b2 y0 B1 S1
    go_wp2_with fail
    refine (specFaultFar_is _ m f cs k _ _ S2.out H1.out).mono ?_
    rintro e w3 ⟨rfl, b3⟩
    obtain ⟨u0, u1, u2⟩ := box2 w3 T L 31
    have B3 := Lib.hid (nextW (nextW B2.out b3) u0)
    have S3 := Lib.hid ((S2.out.old b3).old u0)
    replace x1 := cellB (cellB x1 b3) u0
    replace x2 := cellB (cellB x2 b3) u0
    replace y1 := cellB (cellB y1 b3) u0
    replace y2 := cellB (cellB y2 b3) u0
    clear b3 u0 B2 S2
    cases F with
    | false =>
      clear hT hL hF
      go_wp2
      go_ret
      exact ⟨rfl, B3.out⟩
    | true =>
      have hs := sides_of hF
      have hf := (fvB_cab hF).2.2
      obtain ⟨A, hA⟩ : ∃ A, opA cs k m f = A := ⟨_, rfl⟩
      obtain ⟨B, hB⟩ : ∃ B, opB cs k m f = B := ⟨_, rfl⟩
      have HO := Lib.hid (And.intro hA (And.intro hB hF))
      have hB2 : B = allI cs k - ohmsI cs k m + f := by rw [← hB]; exact (op_fv hF).2
      unfold faT at hT
      unfold faL at hL
      rw [if_pos hF] at hT hL
      obtain ⟨R, hR⟩ : ∃ R, ohmsI cs k m = R := ⟨_, rfl⟩
      obtain ⟨V, hV⟩ : ∃ V, allI cs k = V := ⟨_, rfl⟩
      have HRV := Lib.hid (And.intro hV hR)
      rw [hR, hV] at hT hL hB2 hs
      have q1 : 0 ≤ V - R ∧ V - R ≤ 8000 := by omega
      have q2 : 0 ≤ R ∧ R ≤ 8000 := by omega
      have hV1 : V ≤ 8000 := by omega
      have hbd := ea_bd q1 q2 hf
      have hle := ea_le q1 q2 hf
      have hz : f = 0 → T = V - R ∧ L = 1 := by
        intro h
        subst h
        rw [← hT, ← hL]
        exact ea_zero q1.1 q2.1
      rw [hT, hL] at hbd hle
      obtain ⟨D, hD⟩ : ∃ D, V - R = D := ⟨_, rfl⟩
      rw [hD] at hB2 hle hz q1
      rw [← hB2] at hle
      have m1 := mul_bd (a := B) (b := L) (A := 9000) (B := 9000) (by omega) (by omega) (by omega) (by omega)
      have m2 := mul_bd (a := D) (b := L) (A := 8000) (B := 9000) (by omega) (by omega) (by omega) (by omega)
      obtain ⟨X, hX⟩ : ∃ X, B * L = X := ⟨_, rfl⟩
      obtain ⟨Y, hY⟩ : ∃ Y, D * L = Y := ⟨_, rfl⟩
      rw [hX] at hle m1
      rw [hY] at hle m2
      have c1 : decide (T ≤ X) = true := decide_eq_true hle.1
      have c2 : decide (Y ≤ T) = true := decide_eq_true hle.2.2
      have j1 : 0 ≤ X := m1.1
      have j2 : X ≤ 81000000 := by omega
      have j3 : 0 ≤ Y := m2.1
      have j4 : Y ≤ 81000000 := by omega
      obtain ⟨d1, d2⟩ := q2
      clear hT hL hA hB hB2 hR hV hs m1 m2 hle hF
      go_wp2_with fail
      refine (implFaultOpen_is _ m f cs k _ _ S3.out HO.out).mono ?_
      rintro e w4 ⟨rfl, b4⟩
      have B4 := Lib.hid (nextW B3.out b4)
      have S4 := Lib.hid (S3.out.old b4)
      replace x1 := cellB x1 b4
      replace x2 := cellB x2 b4
      replace y1 := cellB y1 b4
      replace y2 := cellB y2 b4
      clear b4 u1 u2 B3 S3
      go_upto_region 9 with (fail)
      have k0 := cell_regrown x1
      have k1 := cell_regrown x2
      refine wp_region_quiet_below (by kernel_rfl) (by kernel_rfl) ?_
      repeat (any_goals (first | go_big_quiet_step ((first | (go_at_call 53; exact Calls.regrown_of (implCableAll_is _ cs k _ _ (S4.out.old (below_regrown _ _ _)) HRV.out.1)) | (go_at_call 54; exact Calls.regrown_of (implCableOhms_is' _ m cs k _ _ (S4.out.old (below_regrown _ _ _)) HRV.out.2)))) | quiet_step ((first | (go_at_call 53; exact Calls.regrown_of (implCableAll_is _ cs k _ _ (S4.out.old (below_regrown _ _ _)) HRV.out.1)) | (go_at_call 54; exact Calls.regrown_of (implCableOhms_is' _ m cs k _ _ (S4.out.old (below_regrown _ _ _)) HRV.out.2))))))
      refine wpQuiet_nil ?_
      intro _ hw'
      obtain ⟨⟨dq, osq⟩, hw''⟩ := hw'
      subst hw''
      have bq := below_regrown (w4) dq osq
      revert bq
      generalize Go.Sort.grow (redrawn (w4) dq) osq = wq
      intro bq
      clear k0 k1
      have B5 := Lib.hid (nextW B4.out bq)
      replace x1 := cellB x1 bq
      replace x2 := cellB x2 bq
      replace y1 := cellB y1 bq
      replace y2 := cellB y2 bq
      by_cases hf0 : f = 0
      · subst hf0
        obtain ⟨rfl, rfl⟩ := hz rfl
        go_wp2
        go_ret
        exact ⟨rfl, B5.out⟩
      · have hfn : (f != 0) = true := by simpa using hf0
        clear hz
        go_wp2
        go_ret
        exact ⟨rfl, B5.out⟩
  · have hlt : decide ((1048576 : Int) < (len0 : Int)) = true := by simp; omega
    go_enter Try.func13, Try.ntmps13
    go_wp2
    go_ret
    exact ⟨rfl, Below.refl _ _⟩

set_option maxRecDepth 100000 in
theorem lifted (os : Os) (started : os.Started) (H : Type) (enc : TypeId × Value → H) :
    ReturnsInHanded {} Try.checked os 13 .any (Rows.fnFarSpec.pre6 enc Try.prog Try.f13 Rows.fnFarRow.domain false) (Rows.fnFarSpec.post enc Try.prog Try.f13 false true false false) := by
  refine returnsInHanded_of_change (C := Try.checked) own started (by kernel_rfl) Try.func13
    (ChangeSpec.witness6 (enc := enc) (C := Try.checked) false ⟨#[], #[.slice none 0 0], []⟩ 8 (by kernel_rfl) (by kernel_rfl) (by kernel_rfl) (by kernel_rfl)) ?_
  intro W base args ds gs before hval0 hW hcnd _
  have hval : ∀ (j : Nat) t v, Try.f13.params[j]? = some t → args[j]? = some v → Value.okWide Try.prog W .any base t v := hval0
  have hW' := hW
  obtain ⟨p, q, hA0, hV, rfl, hfz, hnd⟩ := hW
  have hA : DataW.TrodAll enc Try.prog W 0 (fun _ => true) true Try.f13.params.toList args.toList ds p := hA0
  rw [Try.params13] at hA hval
  obtain ⟨v0, vs0, d0, ds0, p0, q0, hargs, rfl, rfl, h0, r0⟩ := trodAll_cons hA
  obtain ⟨rfl, rfl, rfl⟩ := trodAll_nil r0
  obtain rfl : args = #[v0] := by cases args; simp_all
  obtain ⟨rfl, rfl⟩ := trodVars_none hV
  obtain ⟨a0, len0, cap0, rfl⟩ := okWide_slice Try.underlying48 (hval 0 48 v0 rfl rfl)
  have k0 := h0
  have lt0 : ∀ x ∈ p0, x.block < W.heap.size := by obtain ⟨m, hm⟩ := k0; exact DataW.trod_lt m _ _ _ hm
  obtain ⟨z0, w0⟩ := by0_of h0
  clear hA0 hval0
  refine (walk a0 len0 cap0 z0 W w0).mono fun e W' ⟨he, bel⟩ => ?_
  subst he
  exact ⟨_, rfl, _, _, _, [], _, [], hW', trodAll_mk1 (shut_bool Try.underlying4 _), (trodAll_cons_mk (Below.trod laidOut (by kernel_rfl) (of_decide_eq_true (by kernel_rfl)) k0 bel lt0) trodAll_mk0), rfl, bel.frame _, fun h => by cases h⟩

theorem over : Rows.fnFarRow.holds Try.pinned (OpenSpec.ofChange Rows.fnFarSpec) :=
  OpenClaim.holds_of_wide 13 Try.f13 rfl rfl rfl rfl rfl rfl rfl ⟨rfl, rfl, rfl, rfl, rfl⟩ rfl rfl rfl rfl rfl (by kernel_rfl) Try.func13 (facts_of signs (by kernel_rfl))
    (of_decide_eq_true (by kernel_rfl)) (by unfold Func.isWrapper; first | (rw [if_pos (by decide +kernel)]; kernel_rfl) | (rw [if_neg (by decide +kernel)]; exact ⟨rfl, rfl⟩))
    (fun os started H enc _ => lifted os started H enc)

theorem proved : Rows.FnFarSaid := over
#print axioms proved

end Go.Proofs.Ytoanefccnbnkmaa.fnFar
