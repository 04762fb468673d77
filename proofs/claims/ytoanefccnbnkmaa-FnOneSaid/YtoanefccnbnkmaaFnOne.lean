/- FnOne: the faults that a measurement from one end fits. -/
import Derived.Test.YtoanefccnbnkmaaLawD
import Derived.Test.YtoanefccnbnkmaaSameF
import Derived.Test.YtoanefccnbnkmaaOneLaw
import Derived.Test.YtoanefccnbnkmaaIf
import Derived.BigQuiet
namespace Go.Proofs.Ytoanefccnbnkmaa.fnOne
open Go.ChangeShapes Go.WideShapes Go.ChangeAt Go.RowKit
set_option linter.unusedVariables false

theorem implFaultFind_is {M O : Int} {F : Bool} (v : Value) (a b : Int) (cs : List Int) (n hi : Nat) (w : World) (hv : SlF 3 w hi v cs n) (ha : -9223372036854775808 ≤ a ∧ a ≤ 9223372036854775807) (h : ffM cs n a b = M ∧ ffO cs n a b = O ∧ ffB cs n a b = F) :
    Calls Try.prog 31 #[v, .int .i64 a, .int .i64 b] w fun e w' => e = .returned (.tuple #[.agg #[.int .i64 M, .int .i64 O], .bool F]) ∧ Below w.heap.size w w' := by
  obtain ⟨rfl, rfl, rfl⟩ := h
  exact implFaultFind_b v a b cs n hi w hv ha

set_option maxRecDepth 100000 in
set_option maxHeartbeats 2000000 in
theorem walk (a0 : Option Addr) (len0 cap0 : Nat) (z0 : Unit) (w : World) (h0 : By w w.heap.size (.slice a0 len0 cap0) len0) :
    Calls Try.prog 7 #[.slice a0 len0 cap0] w fun e w' => e = .returned (.bool true) ∧ Below w.heap.size w w' := by
  by_cases hn : len0 ≤ 1048576
  · have hlt : decide ((1048576 : Int) < (len0 : Int)) = false := by simp; omega
    go_enter Try.func7, Try.ntmps7
    go_wp2_with fail
    refine (drawFaultOne_any _ len0 w.heap.size w h0 (Nat.le_refl _)).mono ?_
    rintro e w1 ⟨r, a, rfl, hd⟩
    obtain ⟨cs, k, b1, s1, ha⟩ := hd.out
    have B1 := Lib.hid b1
    have S1 := Lib.hid s1
    have HA : Hid (-9223372036854775808 ≤ a ∧ a ≤ 9223372036854775807) := Lib.hid (by omega)
    clear hd b1 s1
    go_wp2_with fail
    refine (implFaultOne_b _ a cs k _ _ S1.out HA.out).mono ?_
    rintro e w2 ⟨v2, c, rfl, b2, r2⟩
    have B2 := Lib.hid (nextW B1.out b2)
    have S2 := Lib.hid (S1.out.old b2)
    have L2 := Lib.hid r2.sl
    clear b2 r2 B1 S1
    go_wp2_with fail
    refine (specFaultOne_b _ a cs k _ _ S2.out).mono ?_
    rintro e w3 ⟨v3, c3, rfl, b3, r3⟩
    have B3 := Lib.hid (nextW B2.out b3)
    have S3 := Lib.hid (S2.out.old b3)
    have L3 := Lib.hid (L2.out.old b3)
    have G3 := Lib.hid r3.sl
    clear b3 r3 B2 S2 L2
    have hne : ∀ b : Bool, (b != b) = false := by simp
    have hne2 := hne (oneOk cs k a)
    clear hne
    cases hok : oneOk cs k a with
    | false =>
      go_wp2_with fail
      refine (sameFaults_yes _ _ _ _ _ _ _ _ L3.out G3.out).mono ?_
      rintro e w4 ⟨rfl, b4⟩
      have B4 := Lib.hid (nextW B3.out b4)
      have L4 := Lib.hid (L3.out.old b4)
      have G4 := Lib.hid (G3.out.old b4)
      clear b4
      go_wp2_with fail
      refine (sameFaults_yes _ _ _ _ _ _ _ _ L4.out G4.out).mono ?_
      rintro e w5 ⟨rfl, b5⟩
      have B5 := Lib.hid (nextW B4.out b5)
      clear b5
      go_wp2
      go_ret
      exact ⟨rfl, B5.out⟩
    | true =>
      go_wp2_with fail
      refine (sameFaults_yes _ _ _ _ _ _ _ _ L3.out G3.out).mono ?_
      rintro e w4 ⟨rfl, b4⟩
      have B4 := Lib.hid (nextW B3.out b4)
      have S4 := Lib.hid (S3.out.old b4)
      have L4 := Lib.hid (L3.out.old b4)
      clear b4 B3 S3 L3 G3
      have hLe : oneL cs k a = onTo cs k a (nMl cs k) := by unfold oneL; rw [hok]; rfl
      obtain ⟨c', fl⟩ := onTo_fl cs k a (nMl cs k)
      rw [← hLe] at fl
      obtain rfl : c' = c := by have h1 := fl.len; have h2 := L4.out.len.1; omega
      have FL := Lib.hid fl
      clear hLe fl
      revert L4 FL
      generalize oneL cs k a = L
      intro L4 FL
      obtain ⟨va, vcap, rfl, hl, hcn, hcap, hcap2, hc⟩ := (id L4.out)
      have HC := Lib.hid hc
      have HOK := Lib.hid hok
      clear hc hl hok hne2
      go_wp2
      go_loopw [9] (fun i wr => ∃ j : Nat, j ≤ c' ∧ i = .int .i64 j ∧ Hid (Below w4.heap.size w4 wr)) (fun i _ => c' - (intOf i).toNat)
      case atStart => exact ⟨0, Nat.zero_le _, rfl, Lib.hid (Below.refl _ _)⟩
      case round =>
        obtain ⟨j, hj, rfl, hB⟩ := hrel
        by_cases hltj : j < c'
        · obtain ⟨b, off, rfl, hbh, hc⟩ := HC.out (by omega)
          obtain ⟨c0, c1⟩ := cel2 hc hltj hB.out (World.block_lt_of_cell? w4 _ (hc (j * 2) (by omega)))
          have FV := one_fv FL.out hltj
          have FS := one_step FL.out hltj
          have UP := fun (i : Nat) (h : i < j) => one_up FL.out h hltj
          revert c0 c1 FV FS UP
          generalize gi L (j * 2) = m
          generalize gi L (j * 2 + 1) = f
          intro c0 c1 FV FS UP
          obtain ⟨B, hBB⟩ : ∃ B, opB cs k m f = B := ⟨_, rfl⟩
          rw [hBB] at FS
          have P1 := Lib.hid (And.intro FS.1 (And.intro hBB FV.1))
          have P2 := Lib.hid FS.2
          clear FV FS hBB
          match j, hltj, c0, c1, UP, hj with
          | 0, hltj, c0, c1, UP, hj =>
            simp only [Nat.zero_mul, Nat.add_zero] at c0 c1
            have hjn : 0 + 1 ≤ c' := by omega
            clear hc UP
            go_wp2_with fail
            refine (implFaultOpen_is _ m f cs k _ _ (S4.out.old hB.out) P1.out).mono ?_
            rintro e w5 ⟨rfl, b5⟩
            have hB5 := Lib.hid (nextW hB.out b5)
            replace c0 := cellB c0 b5
            replace c1 := cellB c1 b5
            clear b5 hB
            go_wp2_with fail
            refine (implFaultFind_is _ a B cs k _ _ (S4.out.old hB5.out) HA.out P2.out).mono ?_
            rintro e w6 ⟨rfl, b6⟩
            obtain ⟨y0, y1, y2⟩ := box2 w6 m f 41
            have hB6 := Lib.hid (nextW (nextW hB5.out b6) y0)
            replace c0 := cellB (cellB c0 b6) y0
            replace c1 := cellB (cellB c1 b6) y0
            clear b6 y0 hB5
            go_wp2
            go_quiet (fail)
            go_wp2
            go_roundw
            case rel => exact ⟨_, hjn, rfl, Lib.hid (below_drewN hB6.out _)⟩
            case measure => simp [intOf]; omega
          | i + 1, hltj, c0, c1, UP, hj =>
            obtain ⟨p0, p1⟩ := cel2 hc (by omega : i < c') hB.out (World.block_lt_of_cell? w4 _ (hc (i * 2) (by omega)))
            obtain ⟨u1, u2⟩ := UP i (by omega)
            revert p0 p1 u1 u2
            generalize gi L (i * 2) = m'
            generalize gi L (i * 2 + 1) = f'
            intro p0 p1 u1 u2
            have g1 : decide (m ≤ m') = false := decide_eq_false (by omega)
            have g2 : decide (f' ≤ f) = false := decide_eq_false (by omega)
            have hjn : i + 1 + 1 ≤ c' := by omega
            clear hc UP
            go_wp2_with fail
            refine (implFaultOpen_is _ m f cs k _ _ (S4.out.old hB.out) P1.out).mono ?_
            rintro e w5 ⟨rfl, b5⟩
            have hB5 := Lib.hid (nextW hB.out b5)
            replace c0 := cellB c0 b5
            replace c1 := cellB c1 b5
            replace p0 := cellB p0 b5
            replace p1 := cellB p1 b5
            clear b5 hB
            go_wp2_with fail
            refine (implFaultFind_is _ a B cs k _ _ (S4.out.old hB5.out) HA.out P2.out).mono ?_
            rintro e w6 ⟨rfl, b6⟩
            obtain ⟨y0, y1, y2⟩ := box2 w6 m f 41
            have hB6 := Lib.hid (nextW (nextW hB5.out b6) y0)
            replace c0 := cellB (cellB c0 b6) y0
            replace c1 := cellB (cellB c1 b6) y0
            replace p0 := cellB (cellB p0 b6) y0
            replace p1 := cellB (cellB p1 b6) y0
            clear b6 y0 hB5
            go_wp2
            go_quiet (fail)
            go_wp2
            go_roundw
            case rel => exact ⟨_, hjn, rfl, Lib.hid (below_drewN hB6.out _)⟩
            case measure => simp [intOf]; omega
        · obtain rfl : c' = j := by omega
          have hmi := one_len FL.out
          have hbd := milesI_bd (cs := cs) (n := k)
          obtain ⟨M, hM⟩ : ∃ M, milesI cs k = M := ⟨_, rfl⟩
          rw [hM] at hmi hbd
          have HM := Lib.hid hM
          have hd : decide ((c' : Int) ≤ M + 1) = true := decide_eq_true hmi
          clear hM
          go_wp2_with fail
          refine (implCableMiles_is _ cs k _ _ (S4.out.old hB.out) HM.out).mono ?_
          rintro e w6 ⟨rfl, b6⟩
          have B6 := Lib.hid (nextW (nextW B4.out hB.out) b6)
          clear b6
          go_wp2
          go_ret
          exact ⟨rfl, B6.out⟩
  · have hlt : decide ((1048576 : Int) < (len0 : Int)) = true := by simp; omega
    go_enter Try.func7, Try.ntmps7
    go_wp2
    go_ret
    exact ⟨rfl, Below.refl _ _⟩

set_option maxRecDepth 100000 in
theorem lifted (os : Os) (started : os.Started) (H : Type) (enc : TypeId × Value → H) :
    ReturnsInHanded {} Try.checked os 7 .any (Rows.fnOneSpec.pre6 enc Try.prog Try.f7 Rows.fnOneRow.domain false) (Rows.fnOneSpec.post enc Try.prog Try.f7 false true false false) := by
  refine returnsInHanded_of_change (C := Try.checked) own started (by kernel_rfl) Try.func7
    (ChangeSpec.witness6 (enc := enc) (C := Try.checked) false ⟨#[], #[.slice none 0 0], []⟩ 8 (by kernel_rfl) (by kernel_rfl) (by kernel_rfl) (by kernel_rfl)) ?_
  intro W base args ds gs before hval0 hW hcnd _
  have hval : ∀ (j : Nat) t v, Try.f7.params[j]? = some t → args[j]? = some v → Value.okWide Try.prog W .any base t v := hval0
  have hW' := hW
  obtain ⟨p, q, hA0, hV, rfl, hfz, hnd⟩ := hW
  have hA : DataW.TrodAll enc Try.prog W 0 (fun _ => true) true Try.f7.params.toList args.toList ds p := hA0
  rw [Try.params7] at hA hval
  obtain ⟨v0, vs0, d0, ds0, p0, q0, hargs, rfl, rfl, h0, r0⟩ := trodAll_cons hA
  obtain ⟨rfl, rfl, rfl⟩ := trodAll_nil r0
  obtain rfl : args = #[v0] := by cases args; simp_all
  obtain ⟨rfl, rfl⟩ := trodVars_none hV
  obtain ⟨a0, len0, cap0, rfl⟩ := okWide_slice Try.underlying48 (hval 0 48 v0 rfl rfl)
  have k0 := h0
  have lt0 : ∀ x ∈ p0, x.block < W.heap.size := by obtain ⟨m, hm⟩ := k0; exact DataW.trod_lt m _ _ _ hm
  obtain ⟨z0, w0⟩ := by0_of h0
  clear hA0 hval0
  refine (walk a0 len0 cap0 z0 W w0).mono fun e W' ⟨he, bel⟩ => ?_
  subst he
  exact ⟨_, rfl, _, _, _, [], _, [], hW', trodAll_mk1 (shut_bool Try.underlying4 _), (trodAll_cons_mk (Below.trod laidOut (by kernel_rfl) (of_decide_eq_true (by kernel_rfl)) k0 bel lt0) trodAll_mk0), rfl, bel.frame _, fun h => by cases h⟩

theorem over : Rows.fnOneRow.holds Try.pinned (OpenSpec.ofChange Rows.fnOneSpec) :=
  OpenClaim.holds_of_wide 7 Try.f7 rfl rfl rfl rfl rfl rfl rfl ⟨rfl, rfl, rfl, rfl, rfl⟩ rfl rfl rfl rfl rfl (by kernel_rfl) Try.func7 (facts_of signs (by kernel_rfl))
    (of_decide_eq_true (by kernel_rfl)) (by unfold Func.isWrapper; first | (rw [if_pos (by decide +kernel)]; kernel_rfl) | (rw [if_neg (by decide +kernel)]; exact ⟨rfl, rfl⟩))
    (fun os started H enc _ => lifted os started H enc)

theorem proved : Rows.FnOneSaid := over
#print axioms proved

end Go.Proofs.Ytoanefccnbnkmaa.fnOne
