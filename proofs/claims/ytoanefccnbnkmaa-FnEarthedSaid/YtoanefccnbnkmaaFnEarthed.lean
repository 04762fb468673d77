/- FnEarthed: with the far end earthed, the balance is what the program says. -/
import Derived.Test.YtoanefccnbnkmaaLawD
import Derived.Test.YtoanefccnbnkmaaDrK
import Derived.Test.YtoanefccnbnkmaaBoth
import Derived.Test.YtoanefccnbnkmaaCb
import Derived.Test.YtoanefccnbnkmaaCabI
import Derived.Test.YtoanefccnbnkmaaFaultLaw
namespace Go.Proofs.Ytoanefccnbnkmaa.fnEarthed
open Go.ChangeShapes Go.WideShapes Go.ChangeAt Go.RowKit
set_option linter.unusedVariables false

theorem implFaultFar_is {T L : Int} {p : Bool} (v : Value) (m f : Int) (cs : List Int) (n hi : Nat) (w : World) (hv : SlF 3 w hi v cs n) (h : faT cs n m f = T ∧ faL cs n m f = L ∧ fvB cs n m f = p) :
    Calls Try.prog 48 #[v, .agg #[.int .i64 m, .int .i64 f]] w fun e w' => e = .returned (.tuple #[.agg #[.int .i64 T, .int .i64 L], .bool p]) ∧ Below w.heap.size w w' := by
  obtain ⟨rfl, rfl, rfl⟩ := h
  exact implFaultFar_b v m f cs n hi w hv
theorem implCableAll_is {r : Int} (v : Value) (cs : List Int) (n hi : Nat) (w : World) (hv : SlF 3 w hi v cs n) (h : allI cs n = r) :
    Calls Try.prog 53 #[v] w fun e w' => e = .returned (.int .i64 r) ∧ Below w.heap.size w w' := h ▸ implCableAll_b v cs n hi w hv
theorem implCableOhms_is' {r : Int} (v : Value) (m : Int) (cs : List Int) (n hi : Nat) (w : World) (hv : SlF 3 w hi v cs n) (h : ohmsI cs n m = r) :
    Calls Try.prog 54 #[v, .int .i64 m] w fun e w' => e = .returned (.int .i64 r) ∧ Below w.heap.size w w' := h ▸ implCableOhms_b v m cs n hi w hv
theorem earthed {cs : List Int} {n : Nat} {m f T L : Int} (h : feT cs n m f = T ∧ feL cs n m f = L ∧ fvB cs n m f = true) :
    (faT (rvC cs n) n (mlTo cs n - m) f = T ∧ faL (rvC cs n) n (mlTo cs n - m) f = L ∧ fvB (rvC cs n) n (mlTo cs n - m) f = true) ∧ cabB cs n = true ∧
    ∃ X Y Z, IntKind.i64.wrap (opA cs n m f * L) = X ∧ IntKind.i64.wrap (allI cs n * L) = Y ∧ IntKind.i64.wrap (ohmsI cs n m * L) = Z ∧ T ≤ X ∧ T ≤ Y ∧ Z ≤ T ∧ 1 ≤ L := by
  obtain ⟨rfl, rfl, h⟩ := h
  obtain ⟨hc, hm, hf⟩ := fvB_cab h
  obtain ⟨s1, s2, s3, s4, s5⟩ := sides_of h
  obtain ⟨b1, b2⟩ := back_sides h
  obtain ⟨o1, o2⟩ := op_fv h
  have hb := back_fv h
  rw [← s1, ← s2] at b1
  rw [← s2] at b2
  rw [← s1, ← s2] at s4
  rw [← s1] at s3
  rw [← s2] at s5
  have e1 : feT cs n m f = eaT (ohmsI cs n m) (allI cs n - ohmsI cs n m) f := by unfold feT; rw [if_pos h]
  have e2 : feL cs n m f = eaL (ohmsI cs n m) (allI cs n - ohmsI cs n m) f := by unfold feL; rw [if_pos h]
  have e3 : faT (rvC cs n) n (mlTo cs n - m) f = eaT (allI cs n - (allI cs n - ohmsI cs n m)) (allI cs n - ohmsI cs n m) f := by unfold faT; rw [if_pos hb, b1, b2]
  have e4 : faL (rvC cs n) n (mlTo cs n - m) f = eaL (allI cs n - (allI cs n - ohmsI cs n m)) (allI cs n - ohmsI cs n m) f := by unfold faL; rw [if_pos hb, b1, b2]
  rw [e1, e2, e3, e4, o1]
  clear e1 e2 e3 e4 b1 b2 o1 o2 s1 s2
  generalize ohmsI cs n m = R at *
  generalize allI cs n = V at *
  have q1 : 0 ≤ R ∧ R ≤ 8000 := by omega
  have q2 : 0 ≤ V - R ∧ V - R ≤ 8000 := by omega
  rw [show V - (V - R) = R by omega]
  refine ⟨⟨rfl, rfl, hb⟩, hc, ?_⟩
  have hbd := ea_bd q1 q2 hf
  have hle := ea_le q1 q2 hf
  generalize eaT R (V - R) f = T at *
  generalize eaL R (V - R) f = L at *
  rw [show R + (V - R) = V by omega] at hle
  have m1 := mul_bd (a := R + f) (b := L) (A := 9000) (B := 9000) (by omega) (by omega) (by omega) (by omega)
  have m2 := mul_bd (a := V) (b := L) (A := 8000) (B := 9000) (by omega) (by omega) (by omega) (by omega)
  have m3 := mul_bd (a := R) (b := L) (A := 8000) (B := 9000) (by omega) (by omega) (by omega) (by omega)
  generalize (R + f) * L = X at *
  generalize V * L = Y at *
  generalize R * L = Z at *
  exact ⟨X, Y, Z, IntWalk.i64_in _ (by omega), IntWalk.i64_in _ (by omega), IntWalk.i64_in _ (by omega), hle.1, hle.2.1, hle.2.2, hbd.2.2.1⟩

set_option maxRecDepth 100000 in
set_option maxHeartbeats 4000000 in
theorem walk (a0 : Option Addr) (len0 cap0 : Nat) (z0 : Unit) (w : World) (h0 : By w w.heap.size (.slice a0 len0 cap0) len0) :
    Calls Try.prog 15 #[.slice a0 len0 cap0] w fun e w' => e = .returned (.bool true) ∧ Below w.heap.size w w' := by
  by_cases hn : len0 ≤ 1048576
  · have hlt : decide ((1048576 : Int) < (len0 : Int)) = false := by simp; omega
    go_enter Try.func15, Try.ntmps15
    go_wp2_with fail
    refine (drawFaultEarthed_any _ len0 w.heap.size w h0 (Nat.le_refl _)).mono ?_
    rintro e w1 ⟨r, m, f, rfl, hd⟩
    obtain ⟨cs, k, b1, s1⟩ := hd.out
    obtain ⟨bb, x1, x2⟩ := box2 w1 m f 41
    have B3 := Lib.hid (nextW b1 bb)
    have S3 := Lib.hid (s1.old bb)
    clear hd b1 s1 bb
    obtain ⟨T, hT⟩ : ∃ T, feT cs k m f = T := ⟨_, rfl⟩
    obtain ⟨L, hL⟩ : ∃ L, feL cs k m f = L := ⟨_, rfl⟩
    obtain ⟨F, hF⟩ : ∃ F, fvB cs k m f = F := ⟨_, rfl⟩
    have H1 := Lib.hid (And.intro hT (And.intro hL hF))
    have HF := Lib.hid hF
    clear hT hL hF
    go_wp2_with fail
    refine (implFaultEarthed_is _ m f cs k _ _ S3.out H1.out).mono ?_
    rintro e w2 ⟨rfl, b2⟩
    obtain ⟨y0, y1, y2⟩ := box2 w2 T L 31
    replace B3 := Lib.hid (nextW (nextW B3.out b2) y0)
    replace S3 := Lib.hid ((S3.out.old b2).old y0)
    replace x1 := cellB (cellB x1 b2) y0
    replace x2 := cellB (cellB x2 b2) y0
    clear b2 y0
    go_wp2_with fail
    refine (specFaultEarthed_is _ m f cs k _ _ S3.out H1.out).mono ?_
    rintro e w3 ⟨rfl, b3⟩
    obtain ⟨u0, u1, u2⟩ := box2 w3 T L 31
    replace B3 := Lib.hid (nextW (nextW B3.out b3) u0)
    replace S3 := Lib.hid ((S3.out.old b3).old u0)
    replace x1 := cellB (cellB x1 b3) u0
    replace x2 := cellB (cellB x2 b3) u0
    replace y1 := cellB (cellB y1 b3) u0
    replace y2 := cellB (cellB y2 b3) u0
    clear b3 u0
    cases F with
    | false =>
      go_wp2
      go_ret
      exact ⟨rfl, B3.out⟩
    | true =>
      obtain ⟨A, hA⟩ : ∃ A, opA cs k m f = A := ⟨_, rfl⟩
      obtain ⟨B, hB⟩ : ∃ B, opB cs k m f = B := ⟨_, rfl⟩
      obtain ⟨R, hR⟩ : ∃ R, ohmsI cs k m = R := ⟨_, rfl⟩
      obtain ⟨V, hV⟩ : ∃ V, allI cs k = V := ⟨_, rfl⟩
      obtain ⟨M, hM⟩ : ∃ M, mlTo cs k - m = M := ⟨_, rfl⟩
      have HO := Lib.hid (And.intro hA (And.intro hB HF.out))
      have HR := Lib.hid hR
      have HV := Lib.hid hV
      have HM := Lib.hid hM
      obtain ⟨g1, g2, X, Y, Z, k1, k2, k3, c1, c2, c3, c4⟩ := earthed H1.out
      rw [hM] at g1
      rw [hA] at k1
      rw [hV] at k2
      rw [hR] at k3
      have G1 := Lib.hid g1
      have G2 := Lib.hid g2
      have d1 : decide (T ≤ X) = true := decide_eq_true c1
      have d2 : decide (T ≤ Y) = true := decide_eq_true c2
      have d3 : decide (Z ≤ T) = true := decide_eq_true c3
      have d4 : decide (1 ≤ L) = true := decide_eq_true c4
      have KK := Lib.hid (And.intro (And.intro k1 (And.intro k2 k3)) (And.intro (And.intro d1 d2) (And.intro d3 d4)))
      clear hA hB hR hV hM g1 g2 k1 k2 k3 c1 c2 c3 c4 d1 d2 d3 d4 H1
      go_wp2_with fail
      refine (implFaultOpen_is _ m f cs k _ _ S3.out HO.out).mono ?_
      rintro e w4 ⟨rfl, b⟩
      replace B3 := Lib.hid (nextW B3.out b)
      replace S3 := Lib.hid (S3.out.old b)
      replace x1 := cellB x1 b
      replace x2 := cellB x2 b
      replace y1 := cellB y1 b
      replace y2 := cellB y2 b
      clear b u1 u2
      go_wp2_with fail
      refine (implCableOhms_is' _ m cs k _ _ S3.out HR.out).mono ?_
      rintro e w5 ⟨rfl, b⟩
      replace B3 := Lib.hid (nextW B3.out b)
      replace S3 := Lib.hid (S3.out.old b)
      replace x1 := cellB x1 b
      replace x2 := cellB x2 b
      replace y1 := cellB y1 b
      replace y2 := cellB y2 b
      clear b
      go_wp2_with fail
      refine (implCableBack_b _ cs k _ _ S3.out G2.out).mono ?_
      rintro e w6 ⟨v5, rfl, b, s5⟩
      replace B3 := Lib.hid (nextW B3.out b.out)
      replace S3 := Lib.hid (S3.out.old b.out)
      replace x1 := cellB x1 b.out
      replace x2 := cellB x2 b.out
      replace y1 := cellB y1 b.out
      replace y2 := cellB y2 b.out
      clear b
      go_wp2_with fail
      refine (implFaultBack_b _ m f cs k _ _ S3.out HF.out).mono ?_
      rintro e w7 ⟨rfl, b⟩
      rw [HM.out]
      obtain ⟨bb, u0, u1⟩ := box2 w7 M f 41
      replace B3 := Lib.hid (nextW (nextW B3.out b) bb)
      replace S3 := Lib.hid ((S3.out.old b).old bb)
      replace s5 := Lib.hid ((s5.out.old b).old bb)
      replace y1 := cellB (cellB y1 b) bb
      replace y2 := cellB (cellB y2 b) bb
      clear b bb x1 x2
      go_wp2_with fail
      refine (implFaultFar_is _ M f (rvC cs k) k _ _ s5.out G1.out).mono ?_
      rintro e w8 ⟨rfl, b⟩
      obtain ⟨bb, v1, v2⟩ := box2 w8 T L 31
      replace B3 := Lib.hid (nextW (nextW B3.out b) bb)
      replace S3 := Lib.hid ((S3.out.old b).old bb)
      replace y1 := cellB (cellB y1 b) bb
      replace y2 := cellB (cellB y2 b) bb
      clear b bb u0 u1 s5
      have p1 := cell_regrown y1
      have p2 := cell_regrown y2
      have r1 := cell_regrown v1
      have r2 := cell_regrown v2
      have e4 : (T == T) = true := by simp
      have e5 : (L == L) = true := by simp
      obtain ⟨⟨k1, k2, k3⟩, ⟨d1, d2⟩, d3, d4⟩ := KK.out
      go_wp2_with fail
      refine wp_region_quiet_below (by kernel_rfl) (by kernel_rfl) ?_
      repeat (any_goals (first | go_big_quiet_step (((go_at_call 53; exact Calls.regrown_of (implCableAll_is _ cs k _ _ (S3.out.old (below_regrown _ _ _)) HV.out)))) | quiet_step (((go_at_call 53; exact Calls.regrown_of (implCableAll_is _ cs k _ _ (S3.out.old (below_regrown _ _ _)) HV.out))))))
      refine wpQuiet_nil ?_
      intro _ hw'
      obtain ⟨⟨dq, osq⟩, hw''⟩ := hw'
      subst hw''
      have bq := below_regrown (w8.alloc (.cells #[.int .i64 T, .int .i64 L] 31)) dq osq
      revert bq
      generalize Go.Sort.grow (redrawn (w8.alloc (.cells #[.int .i64 T, .int .i64 L] 31)) dq) osq = wq
      intro bq
      clear p1 p2 r1 r2
      go_wp2_with fail
      go_ret
      exact ⟨rfl, nextW B3.out bq⟩
  · have hlt : decide ((1048576 : Int) < (len0 : Int)) = true := by simp; omega
    go_enter Try.func15, Try.ntmps15
    go_wp2
    go_ret
    exact ⟨rfl, Below.refl _ _⟩

set_option maxRecDepth 100000 in
theorem lifted (os : Os) (started : os.Started) (H : Type) (enc : TypeId × Value → H) :
    ReturnsInHanded {} Try.checked os 15 .any (Rows.fnEarthedSpec.pre6 enc Try.prog Try.f15 Rows.fnEarthedRow.domain false) (Rows.fnEarthedSpec.post enc Try.prog Try.f15 false true false false) := by
  refine returnsInHanded_of_change (C := Try.checked) own started (by kernel_rfl) Try.func15
    (ChangeSpec.witness6 (enc := enc) (C := Try.checked) false ⟨#[], #[.slice none 0 0], []⟩ 8 (by kernel_rfl) (by kernel_rfl) (by kernel_rfl) (by kernel_rfl)) ?_
  intro W base args ds gs before hval0 hW hcnd _
  have hval : ∀ (j : Nat) t v, Try.f15.params[j]? = some t → args[j]? = some v → Value.okWide Try.prog W .any base t v := hval0
  have hW' := hW
  obtain ⟨p, q, hA0, hV, rfl, hfz, hnd⟩ := hW
  have hA : DataW.TrodAll enc Try.prog W 0 (fun _ => true) true Try.f15.params.toList args.toList ds p := hA0
  rw [Try.params15] at hA hval
  obtain ⟨v0, vs0, d0, ds0, p0, q0, hargs, rfl, rfl, h0, r0⟩ := trodAll_cons hA
  obtain ⟨rfl, rfl, rfl⟩ := trodAll_nil r0
  obtain rfl : args = #[v0] := by cases args; simp_all
  obtain ⟨rfl, rfl⟩ := trodVars_none hV
  obtain ⟨a0, len0, cap0, rfl⟩ := okWide_slice Try.underlying48 (hval 0 48 v0 rfl rfl)
  have k0 := h0
  have lt0 : ∀ x ∈ p0, x.block < W.heap.size := by obtain ⟨m, hm⟩ := k0; exact DataW.trod_lt m _ _ _ hm
  obtain ⟨z0, w0⟩ := by0_of h0
  clear hA0 hval0
  refine (walk a0 len0 cap0 z0 W w0).mono fun e W' ⟨he, bel⟩ => ?_
  subst he
  exact ⟨_, rfl, _, _, _, [], _, [], hW', trodAll_mk1 (shut_bool Try.underlying4 _), (trodAll_cons_mk (Below.trod laidOut (by kernel_rfl) (of_decide_eq_true (by kernel_rfl)) k0 bel lt0) trodAll_mk0), rfl, bel.frame _, fun h => by cases h⟩

theorem over : Rows.fnEarthedRow.holds Try.pinned (OpenSpec.ofChange Rows.fnEarthedSpec) :=
  OpenClaim.holds_of_wide 15 Try.f15 rfl rfl rfl rfl rfl rfl rfl ⟨rfl, rfl, rfl, rfl, rfl⟩ rfl rfl rfl rfl rfl (by kernel_rfl) Try.func15 (facts_of signs (by kernel_rfl))
    (of_decide_eq_true (by kernel_rfl)) (by unfold Func.isWrapper; first | (rw [if_pos (by decide +kernel)]; kernel_rfl) | (rw [if_neg (by decide +kernel)]; exact ⟨rfl, rfl⟩))
    (fun os started H enc _ => lifted os started H enc)

theorem proved : Rows.FnEarthedSaid := over
#print axioms proved

end Go.Proofs.Ytoanefccnbnkmaa.fnEarthed
