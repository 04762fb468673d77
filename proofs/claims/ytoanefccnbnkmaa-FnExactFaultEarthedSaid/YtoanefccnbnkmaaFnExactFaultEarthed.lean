/- For all arguments, the program's FaultEarthed returns what the reference's returns, and the arguments read afterwards as they read before. No condition. -/
import Derived.Test.YtoanefccnbnkmaaLawF
import Derived.Test.YtoanefccnbnkmaaEarth
import Derived.Test.YtoanefccnbnkmaaFlatSection
import Derived.Test.YtoanefccnbnkmaaFlatFault
import Derived.Test.YtoanefccnbnkmaaFlatRatio
import Derived.Deep.RegionHeld3
import Derived.Deep.Cut
namespace Go.Proofs.Ytoanefccnbnkmaa.fnExactFaultEarthed
open Go.ChangeShapes Go.WideShapes Go.ChangeAt Go.RowKit
set_option linter.unusedVariables false

theorem keep2s {W wq : World} {g b : Nat} {x0 x1 u v : Value} (hb : b < W.heap.size) (hg : W.heap.size ≤ g) (h : wq.cell? ⟨b, 0, none⟩ = some x0 ∧ wq.cell? ⟨b, 1, none⟩ = some x1 ∧ Below W.heap.size W wq) :
    ((wq.setCell ⟨g, 0, none⟩ u).setCell ⟨g, 1, none⟩ v).cell? ⟨b, 0, none⟩ = some x0 ∧ ((wq.setCell ⟨g, 0, none⟩ u).setCell ⟨g, 1, none⟩ v).cell? ⟨b, 1, none⟩ = some x1 ∧ Below W.heap.size W ((wq.setCell ⟨g, 0, none⟩ u).setCell ⟨g, 1, none⟩ v) := by
  have e : ((wq.setCell ⟨g, 0, none⟩ u).setCell ⟨g, 1, none⟩ v).heap[b]? = wq.heap[b]? :=
    (Below.heap_setCell _ ⟨g, 1, none⟩ v b (by show b ≠ g; omega)).trans (Below.heap_setCell wq ⟨g, 0, none⟩ u b (by show b ≠ g; omega))
  exact ⟨(World.cell?_of_block (a := ⟨b, 0, none⟩) e).trans h.1, (World.cell?_of_block (a := ⟨b, 1, none⟩) e).trans h.2.1, set2B h.2.2 hg _ _⟩

theorem keep2m {W wq : World} {b : Nat} {x0 x1 : Value} {o o' : Obj} (hb : b < W.heap.size) (hs : W.heap.size ≤ wq.heap.size) (h : (wq.alloc o).cell? ⟨b, 0, none⟩ = some x0 ∧ (wq.alloc o).cell? ⟨b, 1, none⟩ = some x1 ∧ Below W.heap.size W (wq.alloc o)) :
    (wq.alloc o').cell? ⟨b, 0, none⟩ = some x0 ∧ (wq.alloc o').cell? ⟨b, 1, none⟩ = some x1 ∧ Below W.heap.size W (wq.alloc o') := by
  have e : ∀ k, k < wq.heap.size → (wq.alloc o').heap[k]? = (wq.alloc o).heap[k]? := fun k hk =>
    (((Below.refl wq.heap.size wq).alloc (Nat.le_refl _) o').block k hk).trans (((Below.refl wq.heap.size wq).alloc (Nat.le_refl _) o).block k hk).symm
  refine ⟨(World.cell?_of_block (a := ⟨b, 0, none⟩) (e b (by omega))).trans h.1, (World.cell?_of_block (a := ⟨b, 1, none⟩) (e b (by omega))).trans h.2.1, ?_⟩
  exact ⟨h.2.2.os, h.2.2.tape, h.2.2.output, by simpa using h.2.2.size, fun k hk => (e k (by omega)).trans (h.2.2.block k hk)⟩
theorem eqRatio_is' {r : Bool} (x0 x1 y0 y1 : Int) (w : World) (h : (decide (x0 = y0) && decide (x1 = y1)) = r) :
    Calls Try.prog 46 #[.agg #[.int .i64 x0, .int .i64 x1], .agg #[.int .i64 y0, .int .i64 y1]] w fun e w' => e = .returned (.bool r) ∧ Below w.heap.size w w' := h ▸ eqRatio_any x0 x1 y0 y1 w

set_option maxRecDepth 100000 in
set_option maxHeartbeats 2000000 in
theorem walk (a0 : Option Addr) (len0 cap0 : Nat) (z0 : List Int) (m1 n1 : Int) (w : World) (h0 : SlF0 3 w (.slice a0 len0 cap0) z0 len0) :
    Calls Try.prog 9 #[.slice a0 len0 cap0, .agg #[.int .i64 m1, .int .i64 n1]] w fun e w' => e = .returned (.bool true) ∧ Below w.heap.size w w' := by
  obtain ⟨hc1, hc2⟩ := h0.caps
  by_cases hn : len0 ≤ 1048576
  · have h1 : (len0 : Int) ≤ 1048576 := by omega
    have hneg : decide ((1048576 : Int) - (len0 : Int) < 0) = false := decide_eq_false (by omega)
    have hneg2 : decide ((1048576 : Int) < (len0 : Int)) = false := decide_eq_false (by omega)
    obtain ⟨b0, x0, x1⟩ := box2 w m1 n1 39
    have V0 := Lib.hid ((h0.sl hn).old b0)
    have B0 := Lib.hid b0
    have X0 := Lib.hid x0
    have X1 := Lib.hid x1
    clear b0 x0 x1 hc1 hc2 h0
    obtain ⟨T, hT⟩ : ∃ T, feT z0 len0 m1 n1 = T := ⟨_, rfl⟩
    obtain ⟨L, hL⟩ : ∃ L, feL z0 len0 m1 n1 = L := ⟨_, rfl⟩
    obtain ⟨F, hF⟩ : ∃ F, fvB z0 len0 m1 n1 = F := ⟨_, rfl⟩
    have CS : Hid (∀ (v : Value) (hi : Nat) (w : World), SlF 3 w hi v z0 len0 → Calls Try.prog 44 #[v, .agg #[.int .i64 m1, .int .i64 n1]] w fun e w' => e = .returned (.tuple #[.agg #[.int .i64 T, .int .i64 L], .bool F]) ∧ Below w.heap.size w w') :=
      Lib.hid fun v hi w hv => by rw [← hT, ← hL, ← hF]; exact specFaultEarthed_b v m1 n1 z0 len0 hi w hv
    have CI : Hid (∀ (v : Value) (hi : Nat) (w : World), SlF 3 w hi v z0 len0 → Calls Try.prog 45 #[v, .agg #[.int .i64 m1, .int .i64 n1]] w fun e w' => e = .returned (.tuple #[.agg #[.int .i64 T, .int .i64 L], .bool F]) ∧ Below w.heap.size w w') :=
      Lib.hid fun v hi w hv => by rw [← hT, ← hL, ← hF]; exact implFaultEarthed_b v m1 n1 z0 len0 hi w hv
    clear hT hL hF
    go_enter Try.func9, Try.ntmps9
    go_wp2_with fail
    refine (szSectionS_ok len0 _ _ _ _ (by omega) h1).mono ?_
    rintro e _ ⟨rfl, rfl⟩
    go_upto_region 5 with (fail)
    revert V0 B0 X0 X1
    generalize (w.alloc (.cells #[.int .i64 m1, .int .i64 n1] 39)) = W
    intro V0 B0 X0 X1
    have S0 := Lib.hid (And.intro X0.out (And.intro X1.out (below_drewN (Below.refl W.heap.size W) 1)))
    go_cut [6, 7] from 16 (fun p v wc => ∃ g : Nat, p = .pointer (some ⟨g, 0, none⟩) ∧ v = .bool F ∧ Hid (Row wc g 31 #[.int .i64 T, .int .i64 L]) ∧ Hid (Below W.heap.size W wc))
    case first =>
      go_region_held3 (fun w' => w'.cell? ⟨w.heap.size, 0, none⟩ = some (.int .i64 m1) ∧ w'.cell? ⟨w.heap.size, 1, none⟩ = some (.int .i64 n1) ∧ Below W.heap.size W w')
        (first | assumption | exact S0.out | exact keep2 (by assumption) (by assumption) | exact keep2 ((Below.refl _ _).alloc (Nat.le_refl _) _) (by assumption) | exact keep2 ((Below.refl _ _).alloc (Nat.le_refl _) _) S0.out | exact keep2s (World.block_lt_of_cell? W _ X0.out) q.out.2 (by assumption) | exact keep2m (World.block_lt_of_cell? W _ X0.out) (by first | exact sC.out | exact sB.out | exact sA.out) (by assumption))
        (first | (go_at_call 19; refine (toSectionS_any _ z0 len0 _ _ (V0.out.old (by simp only [*]))).mono ?_; rintro e wA ⟨vA, rfl, bA, rA⟩; replace rA := Lib.hid rA.sl; (first | (have q := Lib.hid (And.intro ((show Row (World.drew (World.alloc W (.cells #[.int .i64 0, .int .i64 0] 31))) W.heap.size _ _ from Row.new W _ _).old bA) (Nat.le_refl W.heap.size))) | (have q := Lib.hid (And.intro ((Row.new _ #[.int .i64 0, .int .i64 0] 31).old bA) (by first | exact sB.out | exact sA.out | exact Nat.le_refl _))) | (replace q := Lib.hid (And.intro (q.out.1.old bA) q.out.2)) | skip); (try (have q0 : _ = some (Value.int .i64 0) := q.out.1.cell 0; have q1 : _ = some (Value.int .i64 0) := q.out.1.cell 1; have q2 := q.out.1.frozen 0; have q3 := q.out.1.frozen 1; try simp only [World.drew] at q0 q1 q2 q3)); have sA := Lib.hid (Nat.le_trans (show _ ∧ _ ∧ Below W.heap.size W _ from by assumption).2.2.size bA.size)) | (go_at_call 28; refine (toFault_any _ _ _).mono ?_; rintro e wB ⟨rfl, bB⟩; (first | (replace rA := Lib.hid (rA.out.old bB)) | (replace rA := Lib.hid ((rA.out.old ((Below.refl _ _).alloc (Nat.le_refl _) _)).old bB)) | skip); (first | (have q := Lib.hid (And.intro ((show Row (World.drew (World.alloc W (.cells #[.int .i64 0, .int .i64 0] 31))) W.heap.size _ _ from Row.new W _ _).old bB) (Nat.le_refl W.heap.size))) | (have q := Lib.hid (And.intro ((Row.new _ #[.int .i64 0, .int .i64 0] 31).old bB) (by first | exact sB.out | exact sA.out | exact Nat.le_refl _))) | (replace q := Lib.hid (And.intro (q.out.1.old bB) q.out.2)) | skip); (try (have q0 : _ = some (Value.int .i64 0) := q.out.1.cell 0; have q1 : _ = some (Value.int .i64 0) := q.out.1.cell 1; have q2 := q.out.1.frozen 0; have q3 := q.out.1.frozen 1; try simp only [World.drew] at q0 q1 q2 q3)); have sB := Lib.hid (Nat.le_trans (show _ ∧ _ ∧ Below W.heap.size W _ from by assumption).2.2.size bB.size)) | (go_at_call 44; refine (CS.out _ _ _ (by first | exact rA.out | exact rA.out.old ((Below.refl _ _).alloc (Nat.le_refl _) _))).mono ?_; rintro e wC ⟨rfl, bC⟩; (first | (have q := Lib.hid (And.intro ((show Row (World.drew (World.alloc W (.cells #[.int .i64 0, .int .i64 0] 31))) W.heap.size _ _ from Row.new W _ _).old bC) (Nat.le_refl W.heap.size))) | (have q := Lib.hid (And.intro ((Row.new _ #[.int .i64 0, .int .i64 0] 31).old bC) (by first | exact sB.out | exact sA.out | exact Nat.le_refl _))) | (replace q := Lib.hid (And.intro (q.out.1.old bC) q.out.2)) | skip); (try (have q0 : _ = some (Value.int .i64 0) := q.out.1.cell 0; have q1 : _ = some (Value.int .i64 0) := q.out.1.cell 1; have q2 := q.out.1.frozen 0; have q3 := q.out.1.frozen 1; try simp only [World.drew] at q0 q1 q2 q3)); have sC := Lib.hid (Nat.le_trans (show _ ∧ _ ∧ Below W.heap.size W _ from by assumption).2.2.size bC.size)))
      all_goals
        go_wp2
        go_meet
        case rel =>
          first
            | exact ⟨_, rfl, rfl, Lib.hid (Row.new _ _ _), Lib.hid (show _ ∧ _ ∧ Below W.heap.size W _ from by assumption).2.2⟩
            | exact ⟨_, rfl, rfl, Lib.hid ((q.out.1.set 0 _).set 1 _), Lib.hid (show _ ∧ _ ∧ Below W.heap.size W _ from by assumption).2.2⟩
    case rest =>
      obtain ⟨g, rfl, rfl, RG, BG⟩ := hcut
      have B1 := Lib.hid (nextW B0.out BG.out)
      have V1 := Lib.hid (V0.out.old BG.out)
      have Y0 := Lib.hid (cellB X0.out BG.out)
      have Y1 := Lib.hid (cellB X1.out BG.out)
      clear S0 X0 X1 V0 B0 BG
      go_wp2_with fail
      refine (toSectionS_any _ z0 len0 _ _ V1.out).mono ?_
      rintro e w2 ⟨v2, rfl, b2, r2⟩
      have B2 := Lib.hid (nextW B1.out b2)
      have V2 := Lib.hid (V1.out.old b2)
      have R2 := Lib.hid r2.sl
      have G2 := Lib.hid (RG.out.old b2)
      have c0 := cellB Y0.out b2
      have c1 := cellB Y1.out b2
      clear b2 r2 Y0 Y1 B1 V1 RG
      go_wp2_with fail
      refine (toFault_any _ _ _).mono ?_
      rintro e w3 ⟨rfl, b3⟩
      have B3 := Lib.hid (nextW B2.out b3)
      have V3 := Lib.hid (V2.out.old b3)
      have R3 := Lib.hid (R2.out.old b3)
      have G3 := Lib.hid (G2.out.old b3)
      clear b3 B2 V2 R2 G2 c0 c1
      go_wp2_with fail
      refine (CI.out _ _ _ R3.out).mono ?_
      rintro e w4 ⟨rfl, b4⟩
      obtain ⟨x0, x1, x2⟩ := box2 w4 T L 31
      have B4 := Lib.hid (nextW (nextW B3.out b4) x0)
      have V4 := Lib.hid ((V3.out.old b4).old x0)
      have R4 := Lib.hid ((R3.out.old b4).old x0)
      have G4 := (G3.out.old b4).old x0
      have c0 : _ = some (Value.int .i64 T) := G4.cell 0
      have c1 : _ = some (Value.int .i64 L) := G4.cell 1
      clear b4 x0 B3 V3 R3 G3 G4
      have hne : ∀ b : Bool, (b != b) = false := by simp
      have hne2 := hne F
      clear hne
      go_wp2_with fail
      refine (eqRatio_is' (r := true) T L T L _ (by simp)).mono ?_
      rintro e w5 ⟨rfl, b5⟩
      have B5 := Lib.hid (nextW B4.out b5)
      have V5 := Lib.hid (V4.out.old b5)
      have R5 := Lib.hid (R4.out.old b5)
      clear b5 c0 c1 x1 x2 B4 V4 R4
      go_wp2_with fail
      refine (toSectionS_any _ z0 len0 _ _ V5.out).mono ?_
      rintro e w6 ⟨v6, rfl, b6, r6⟩
      have B6 := Lib.hid (nextW B5.out b6)
      have R6 := Lib.hid (R5.out.old b6)
      have Q6 := Lib.hid r6.sl
      clear b6 r6
      go_wp2_with fail
      refine (eqSectionS_is (r := true) _ _ z0 z0 len0 len0 _ _ _ R6.out Q6.out (by simp)).mono ?_
      rintro e w7 ⟨rfl, b7⟩
      have B7 := Lib.hid (nextW B6.out b7)
      clear b7
      go_wp2
      go_ret
      exact ⟨rfl, B7.out⟩
  · have h1 : ¬ (len0 : Int) ≤ 1048576 := by omega
    go_enter Try.func9, Try.ntmps9
    go_wp2_with fail
    refine (szSectionS_no len0 _ _ _ hc1 hc2 1048576 (by omega) (by omega) (by omega)).mono ?_
    rintro e _ ⟨rfl, rfl⟩
    go_wp2
    go_ret
    exact ⟨rfl, (Below.refl _ w).alloc (Nat.le_refl _) _⟩

set_option maxRecDepth 100000 in
theorem lifted (os : Os) (started : os.Started) (H : Type) (enc : TypeId × Value → H) :
    ReturnsInHanded {} Try.checked os 9 .any (Rows.fnExactFaultEarthedSpec.pre6 enc Try.prog Try.f9 Rows.fnExactFaultEarthedRow.domain false) (Rows.fnExactFaultEarthedSpec.post enc Try.prog Try.f9 false true false false) := by
  refine returnsInHanded_of_change (C := Try.checked) own started (by kernel_rfl) Try.func9
    (ChangeSpec.witness6 (enc := enc) (C := Try.checked) false ⟨#[], #[.slice none 0 0, .agg #[.int .i64 0, .int .i64 0]], []⟩ 8 (by kernel_rfl) (by kernel_rfl) (by kernel_rfl) (by kernel_rfl)) ?_
  intro W base args ds gs before hval0 hW hcnd _
  have hval : ∀ (j : Nat) t v, Try.f9.params[j]? = some t → args[j]? = some v → Value.okWide Try.prog W .any base t v := hval0
  have hW' := hW
  obtain ⟨p, q, hA0, hV, rfl, hfz, hnd⟩ := hW
  have hA : DataW.TrodAll enc Try.prog W 0 (fun _ => true) true Try.f9.params.toList args.toList ds p := hA0
  rw [Try.params9] at hA hval
  obtain ⟨v0, vs0, d0, ds0, p0, q0, hargs, rfl, rfl, h0, r0⟩ := trodAll_cons hA
  obtain ⟨v1, vs1, d1, ds1, p1, q1, rfl, rfl, rfl, h1, r1⟩ := trodAll_cons r0
  obtain ⟨rfl, rfl, rfl⟩ := trodAll_nil r1
  obtain rfl : args = #[v0, v1] := by cases args; simp_all
  obtain ⟨rfl, rfl⟩ := trodVars_none hV
  obtain ⟨a0, len0, cap0, rfl⟩ := okWide_slice Try.underlying22 (hval 0 22 v0 rfl rfl)
  have k0 := h0
  have lt0 : ∀ x ∈ p0, x.block < W.heap.size := by obtain ⟨m, hm⟩ := k0; exact DataW.trod_lt m _ _ _ hm
  obtain ⟨z0, w0⟩ := slF0_of (s := 3) Try.underlying22 Try.underlying78 (by kernel_rfl) (by kernel_rfl) rfl (by omega) (flds3 Try.underlying3 Try.underlying3 Try.underlying3) h0
  obtain ⟨m1, n1, rfl⟩ := agg2_of Try.underlying39 (by kernel_rfl) (by kernel_rfl) Try.underlying3 Try.underlying3 (hval 1 39 v1 rfl rfl) h1
  have k1 := h1
  have lt1 : ∀ x ∈ p1, x.block < W.heap.size := by obtain ⟨m, hm⟩ := k1; exact DataW.trod_lt m _ _ _ hm
  clear hA0 hval0
  refine (walk a0 len0 cap0 z0 m1 n1 W w0).mono fun e W' ⟨he, bel⟩ => ?_
  subst he
  exact ⟨_, rfl, _, _, _, [], _, [], hW', trodAll_mk1 (shut_bool Try.underlying4 _), (trodAll_cons_mk (Below.trod laidOut (by kernel_rfl) (of_decide_eq_true (by kernel_rfl)) k0 bel lt0) (trodAll_cons_mk (Below.trod laidOut (by kernel_rfl) (of_decide_eq_true (by kernel_rfl)) k1 bel lt1) trodAll_mk0)), rfl, bel.frame _, fun h => by cases h⟩

theorem over : Rows.fnExactFaultEarthedRow.holds Try.pinned (OpenSpec.ofChange Rows.fnExactFaultEarthedSpec) :=
  OpenClaim.holds_of_wide 9 Try.f9 rfl rfl rfl rfl rfl rfl rfl ⟨rfl, rfl, rfl, rfl, rfl⟩ rfl rfl rfl rfl rfl (by kernel_rfl) Try.func9 (facts_of signs (by kernel_rfl))
    (of_decide_eq_true (by kernel_rfl)) (by unfold Func.isWrapper; first | (rw [if_pos (by decide +kernel)]; kernel_rfl) | (rw [if_neg (by decide +kernel)]; exact ⟨rfl, rfl⟩))
    (fun os started H enc _ => lifted os started H enc)

theorem proved : Rows.FnExactFaultEarthedSaid := over
#print axioms proved

end Go.Proofs.Ytoanefccnbnkmaa.fnExactFaultEarthed
