/- For all arguments, the program's SparesFit returns what the reference's returns, and the arguments read afterwards as they read before. No condition. -/
import Derived.Test.YthbkimojbbkeiaaLawF
import Derived.Test.YthbkimojbbkeiaaSpFit
import Derived.Test.YthbkimojbbkeiaaFlatSpare
import Derived.Deep.RegionHeld3
import Derived.Deep.Cut
namespace Go.Proofs.Ythbkimojbbkeiaa.fnExactSparesFit
open Go.ChangeShapes Go.WideShapes Go.ChangeAt Go.RowKit
set_option linter.unusedVariables false

theorem keep2 {W wq w1 : World} {a0 a1 : Addr} {x0 x1 : Value} (b : Below wq.heap.size wq w1) (h : wq.cell? a0 = some x0 ∧ wq.cell? a1 = some x1 ∧ Below W.heap.size W wq) : w1.cell? a0 = some x0 ∧ w1.cell? a1 = some x1 ∧ Below W.heap.size W w1 :=
  ⟨cellB h.1 b, cellB h.2.1 b, nextW h.2.2 b⟩
theorem implSparesFit_is {I : Int} {F : Bool} (v : Value) (nm nk : Int) (cs : List Int) (n hi : Nat) (w : World) (hv : SlF 2 w hi v cs n) (h : fitI cs n nm nk = I ∧ fitB cs n nm nk = F) :
    Calls Try.prog 31 #[v, .agg #[.int .i64 nm, .int .i64 nk]] w fun e w' => e = .returned (.tuple #[.int .i64 I, .bool F]) ∧ Below w.heap.size w w' := by
  obtain ⟨rfl, rfl⟩ := h
  exact implSparesFit_b v nm nk cs n hi w hv
theorem specSparesFit_is {I : Int} {F : Bool} (v : Value) (nm nk : Int) (cs : List Int) (n hi : Nat) (w : World) (hv : SlF 2 w hi v cs n) (h : fitI cs n nm nk = I ∧ fitB cs n nm nk = F) :
    Calls Try.prog 29 #[v, .agg #[.int .i64 nm, .int .i64 nk]] w fun e w' => e = .returned (.tuple #[.int .i64 I, .bool F]) ∧ Below w.heap.size w w' := by
  obtain ⟨rfl, rfl⟩ := h
  exact specSparesFit_b v nm nk cs n hi w hv

set_option maxRecDepth 100000 in
set_option maxHeartbeats 2000000 in
theorem walk (a0 : Option Addr) (len0 cap0 : Nat) (z0 : List Int) (m1 n1 : Int) (w : World) (h0 : SlF0 2 w (.slice a0 len0 cap0) z0 len0) :
    Calls Try.prog 5 #[.slice a0 len0 cap0, .agg #[.int .i64 m1, .int .i64 n1]] w fun e w' => e = .returned (.bool true) ∧ Below w.heap.size w w' := by
  obtain ⟨hc1, hc2⟩ := h0.caps
  by_cases hn : len0 ≤ 1048576
  · have h1 : (len0 : Int) ≤ 1048576 := by omega
    have hneg : decide ((1048576 : Int) - (len0 : Int) < 0) = false := decide_eq_false (by omega)
    have hneg2 : decide ((1048576 : Int) < (len0 : Int)) = false := decide_eq_false (by omega)
    obtain ⟨b0, x0, x1⟩ := box2 w m1 n1 32
    have V0 := Lib.hid ((h0.sl hn).old b0)
    have B0 := Lib.hid b0
    have X0 := Lib.hid x0
    have X1 := Lib.hid x1
    obtain ⟨I, hI⟩ : ∃ I, fitI z0 len0 m1 n1 = I := ⟨_, rfl⟩
    obtain ⟨F, hF⟩ : ∃ F, fitB z0 len0 m1 n1 = F := ⟨_, rfl⟩
    have HE := Lib.hid (And.intro hI hF)
    clear b0 x0 x1 hc1 hc2 h0 hI hF
    go_enter Try.func5, Try.ntmps5
    go_wp2_with fail
    refine (szSpareS_ok len0 _ _ _ _ (by omega) h1).mono ?_
    rintro e _ ⟨rfl, rfl⟩
    go_upto_region 5 with (fail)
    revert V0 B0 X0 X1
    generalize (w.alloc (.cells #[.int .i64 m1, .int .i64 n1] 32)) = W
    intro V0 B0 X0 X1
    have S0 := Lib.hid (And.intro X0.out (And.intro X1.out (below_drewN (Below.refl W.heap.size W) 1)))
    go_cut [6, 7] from 16 (fun u v wc => u = .int .i64 I ∧ v = .bool F ∧ Below W.heap.size W wc)
    case first =>
      go_region_held3 (fun w' => w'.cell? ⟨w.heap.size, 0, none⟩ = some (.int .i64 m1) ∧ w'.cell? ⟨w.heap.size, 1, none⟩ = some (.int .i64 n1) ∧ Below W.heap.size W w')
        (first | assumption | exact S0.out | exact keep2 (by assumption) (by assumption))
        (first | (go_at_call 24; refine (toSpareS_any _ z0 len0 _ _ (V0.out.old (by simp only [*]))).mono ?_; rintro e wA ⟨vA, rfl, bA, rA⟩; replace rA := Lib.hid rA.sl) | (go_at_call 30; refine (toSpare_any _ _ _).mono ?_; rintro e wB ⟨rfl, bB⟩; try (replace rA := Lib.hid (rA.out.old bB))) | (go_at_call 29; refine (specSparesFit_is _ _ _ z0 len0 _ _ rA.out HE.out).mono ?_; rintro e wC ⟨rfl, bC⟩))
      all_goals
        go_wp2
        go_meet
        case rel => exact ⟨rfl, rfl, (show _ ∧ _ ∧ Below W.heap.size W _ from by assumption).2.2⟩
    case rest =>
      obtain ⟨rfl, rfl, hb⟩ := hcut
      have B1 := Lib.hid (nextW B0.out hb)
      have V1 := Lib.hid (V0.out.old hb)
      have Y0 := Lib.hid (cellB X0.out hb)
      have Y1 := Lib.hid (cellB X1.out hb)
      clear hb S0 X0 X1 V0 B0
      go_wp2_with fail
      refine (toSpareS_any _ z0 len0 _ _ V1.out).mono ?_
      rintro e w2 ⟨v2, rfl, b2, r2⟩
      have B2 := Lib.hid (nextW B1.out b2)
      have V2 := Lib.hid (V1.out.old b2)
      have R2 := Lib.hid r2.sl
      have y0 := cellB Y0.out b2
      have y1 := cellB Y1.out b2
      clear b2 r2 Y0 Y1 B1 V1
      go_wp2_with fail
      refine (toSpare_any _ _ _).mono ?_
      rintro e w3 ⟨rfl, b⟩
      replace B2 := Lib.hid (nextW B2.out b)
      replace V2 := Lib.hid (V2.out.old b)
      replace R2 := Lib.hid (R2.out.old b)
      clear b y0 y1
      go_wp2_with fail
      refine (implSparesFit_is _ _ _ z0 len0 _ _ R2.out HE.out).mono ?_
      rintro e w4 ⟨rfl, b⟩
      have B3 := Lib.hid (nextW B2.out b)
      have V3 := Lib.hid (V2.out.old b)
      have R3 := Lib.hid (R2.out.old b)
      clear b B2 V2 R2
      have hne : ∀ b : Bool, (b != b) = false := by simp
      have hne2 := hne F
      clear hne
      go_wp2_with fail
      refine (toSpareS_any _ z0 len0 _ _ V3.out).mono ?_
      rintro e w4 ⟨v4, rfl, b4, r4⟩
      have B4 := Lib.hid (nextW B3.out b4)
      have R4 := Lib.hid (R3.out.old b4)
      have Q4 := Lib.hid r4.sl
      clear b4 r4
      go_wp2_with fail
      refine (eqSpareS_is (r := true) _ _ z0 z0 len0 len0 _ _ _ R4.out Q4.out (by simp)).mono ?_
      rintro e w5 ⟨rfl, b5⟩
      have B5 := Lib.hid (nextW B4.out b5)
      clear b5
      go_wp2
      go_ret
      exact ⟨rfl, B5.out⟩
  · have h1 : ¬ (len0 : Int) ≤ 1048576 := by omega
    go_enter Try.func5, Try.ntmps5
    go_wp2_with fail
    refine (szSpareS_no len0 _ _ _ hc1 hc2 1048576 (by omega) (by omega) (by omega)).mono ?_
    rintro e _ ⟨rfl, rfl⟩
    go_wp2
    go_ret
    exact ⟨rfl, (Below.refl _ w).alloc (Nat.le_refl _) _⟩

set_option maxRecDepth 100000 in
theorem lifted (os : Os) (started : os.Started) (H : Type) (enc : TypeId × Value → H) :
    ReturnsInHanded {} Try.checked os 5 .any (Rows.fnExactSparesFitSpec.pre6 enc Try.prog Try.f5 Rows.fnExactSparesFitRow.domain false) (Rows.fnExactSparesFitSpec.post enc Try.prog Try.f5 false true false false) := by
  refine returnsInHanded_of_change (C := Try.checked) own started (by kernel_rfl) Try.func5
    (ChangeSpec.witness6 (enc := enc) (C := Try.checked) false ⟨#[], #[.slice none 0 0, .agg #[.int .i64 0, .int .i64 0]], []⟩ 8 (by kernel_rfl) (by kernel_rfl) (by kernel_rfl) (by kernel_rfl)) ?_
  intro W base args ds gs before hval0 hW hcnd _
  have hval : ∀ (j : Nat) t v, Try.f5.params[j]? = some t → args[j]? = some v → Value.okWide Try.prog W .any base t v := hval0
  have hW' := hW
  obtain ⟨p, q, hA0, hV, rfl, hfz, hnd⟩ := hW
  have hA : DataW.TrodAll enc Try.prog W 0 (fun _ => true) true Try.f5.params.toList args.toList ds p := hA0
  rw [Try.params5] at hA hval
  obtain ⟨v0, vs0, d0, ds0, p0, q0, hargs, rfl, rfl, h0, r0⟩ := trodAll_cons hA
  obtain ⟨v1, vs1, d1, ds1, p1, q1, rfl, rfl, rfl, h1, r1⟩ := trodAll_cons r0
  obtain ⟨rfl, rfl, rfl⟩ := trodAll_nil r1
  obtain rfl : args = #[v0, v1] := by cases args; simp_all
  obtain ⟨rfl, rfl⟩ := trodVars_none hV
  obtain ⟨a0, len0, cap0, rfl⟩ := okWide_slice Try.underlying22 (hval 0 22 v0 rfl rfl)
  have k0 := h0
  have lt0 : ∀ x ∈ p0, x.block < W.heap.size := by obtain ⟨m, hm⟩ := k0; exact DataW.trod_lt m _ _ _ hm
  obtain ⟨z0, w0⟩ := slF0_of (s := 2) Try.underlying22 Try.underlying32 (by kernel_rfl) (by kernel_rfl) rfl (by omega) (flds2 Try.underlying3 Try.underlying3) h0
  obtain ⟨m1, n1, rfl⟩ := agg2_of Try.underlying32 (by kernel_rfl) (by kernel_rfl) Try.underlying3 Try.underlying3 (hval 1 32 v1 rfl rfl) h1
  have k1 := h1
  have lt1 : ∀ x ∈ p1, x.block < W.heap.size := by obtain ⟨m, hm⟩ := k1; exact DataW.trod_lt m _ _ _ hm
  clear hA0 hval0
  refine (walk a0 len0 cap0 z0 m1 n1 W w0).mono fun e W' ⟨he, bel⟩ => ?_
  subst he
  exact ⟨_, rfl, _, _, _, [], _, [], hW', trodAll_mk1 (shut_bool Try.underlying4 _), (trodAll_cons_mk (Below.trod laidOut (by kernel_rfl) (of_decide_eq_true (by kernel_rfl)) k0 bel lt0) (trodAll_cons_mk (Below.trod laidOut (by kernel_rfl) (of_decide_eq_true (by kernel_rfl)) k1 bel lt1) trodAll_mk0)), rfl, bel.frame _, fun h => by cases h⟩

theorem over : Rows.fnExactSparesFitRow.holds Try.pinned (OpenSpec.ofChange Rows.fnExactSparesFitSpec) :=
  OpenClaim.holds_of_wide 5 Try.f5 rfl rfl rfl rfl rfl rfl rfl ⟨rfl, rfl, rfl, rfl, rfl⟩ rfl rfl rfl rfl rfl (by kernel_rfl) Try.func5 (facts_of signs (by kernel_rfl))
    (of_decide_eq_true (by kernel_rfl)) (by unfold Func.isWrapper; first | (rw [if_pos (by decide +kernel)]; kernel_rfl) | (rw [if_neg (by decide +kernel)]; exact ⟨rfl, rfl⟩))
    (fun os started H enc _ => lifted os started H enc)

theorem proved : Rows.FnExactSparesFitSaid := over
#print axioms proved

end Go.Proofs.Ythbkimojbbkeiaa.fnExactSparesFit
