/- FnServeWaste: the best serving wastes no more; no serving wastes less than the best spares one by one. -/
import Derived.Test.YthbkimojbbkeiaaLawD
import Derived.Test.YthbkimojbbkeiaaSvG2
namespace Go.Proofs.Ythbkimojbbkeiaa.fnServeWaste
open Go.ChangeShapes Go.WideShapes Go.ChangeAt Go.RowKit
set_option linter.unusedVariables false

set_option maxRecDepth 100000 in
set_option maxHeartbeats 4000000 in
theorem walk (a0 : Option Addr) (len0 cap0 : Nat) (z0 : Unit) (w : World) (h0 : By w w.heap.size (.slice a0 len0 cap0) len0) :
    Calls Try.prog 18 #[.slice a0 len0 cap0] w fun e w' => e = .returned (.bool true) ∧ Below w.heap.size w w' := by
  by_cases hn : len0 ≤ 1048576
  · have hlt : decide ((1048576 : Int) < (len0 : Int)) = false := decide_eq_false (by omega)
    go_enter Try.func18, Try.ntmps18
    go_wp2_with fail
    refine (drawServeWaste_any _ len0 w.heap.size w h0 (Nat.le_refl _)).mono ?_
    rintro e w1 ⟨v1, v2, v3, rfl, hd⟩
    obtain ⟨cs, n, ds, m, sv, b1, s1, s2, s3, hn12, hm4⟩ := hd.out
    obtain ⟨M, hM⟩ : ∃ M, swI cs n ds m sv = M := ⟨_, rfl⟩
    have HM := Lib.hid hM
    have B := Lib.hid b1
    have V1 := Lib.hid s1
    have V2 := Lib.hid s2
    have V3 := Lib.hid s3
    obtain ⟨c1, k1, rfl, -⟩ := s1
    obtain ⟨c2, k2, rfl, -, -, hk2, hk3, -⟩ := s2
    obtain ⟨c3, l3, k3, rfl, -⟩ := s3
    clear hd b1 hM
    go_wp2_with fail
    refine (implServeWaste_is _ _ _ cs ds sv n m _ _ _ _ V1.out V2.out V3.out HM.out).mono ?_
    rintro e w2 ⟨rfl, b⟩
    replace B := Lib.hid (nextW B.out b)
    replace V1 := Lib.hid (V1.out.old b)
    replace V2 := Lib.hid (V2.out.old b)
    replace V3 := Lib.hid (V3.out.old b)
    clear b
    go_wp2_with fail
    refine (specServeWaste_is _ _ _ cs ds sv n m _ _ _ _ V1.out V2.out V3.out HM.out).mono ?_
    rintro e w3 ⟨rfl, b⟩
    replace B := Lib.hid (nextW B.out b)
    replace V1 := Lib.hid (V1.out.old b)
    replace V2 := Lib.hid (V2.out.old b)
    clear b V3
    have hne : (M != M) = false := by simp
    by_cases hM0 : M < 0
    · have hd0 : decide (M < 0) = true := decide_eq_true hM0
      go_wp2
      go_ret
      exact ⟨rfl, B.out⟩
    · have hd0 : decide (M < 0) = false := decide_eq_false hM0
      have HV := Lib.hid (sw_neg (by rw [HM.out]; exact hM0))
      obtain ⟨L, hL⟩ : ∃ L, sbL cs n ds m = L := ⟨_, rfl⟩
      have HLS : Hid (sbL cs n ds m = L ∧ scB cs n ds m = true) := Lib.hid ⟨hL, (sv_can HV.out).1⟩
      obtain ⟨Q, hQ⟩ : ∃ Q, swI cs n ds m L = Q := ⟨_, rfl⟩
      have HQ := Lib.hid hQ
      have hQM : decide (Q ≤ M) = true := decide_eq_true (by rw [← hQ, ← hL, ← HM.out]; exact best_le HV.out)
      have hLM : Hid (lwTo cs n ds m ≤ M) := Lib.hid (by rw [← HM.out, sw_lo HV.out]; exact (lw_bd HV.out (Nat.le_refl m)).2)
      clear hL hQ
      go_wp2_with fail
      refine (implServeBest_is _ _ cs ds n m _ _ _ V1.out V2.out HLS.out).mono ?_
      rintro e w4 ⟨v4, rfl, b, r4⟩
      replace B := Lib.hid (nextW B.out b)
      replace V1 := Lib.hid (V1.out.old b)
      replace V2 := Lib.hid (V2.out.old b)
      have V4 := Lib.hid r4.sl
      obtain ⟨c4, l4, k4, rfl, -⟩ := r4
      clear b HLS
      go_wp2
      go_loopw [10, 11] (fun s i wr => ∃ k : Nat, k ≤ m ∧ i = .int .i64 k ∧ s = .int .i64 (lwTo cs n ds k) ∧ Hid (Below w4.heap.size w4 wr)) (fun _ i _ => m - (intOf i).toNat)
      case atStart => exact ⟨0, Nat.zero_le _, rfl, rfl, Below.refl _ _⟩
      case round =>
        obtain ⟨k, hk, rfl, rfl, hB⟩ := hrel
        by_cases hlt2 : k < m
        · have W1 := Lib.hid (V1.out.old hB.out)
          have W2 := Lib.hid (V2.out.old hB.out)
          obtain ⟨_, _, e2, _, _, _, _, hc2⟩ := W2.out
          cases e2
          obtain ⟨b2, off2, rfl, hb2, hc2⟩ := hc2 (by omega)
          obtain ⟨f0, f1⟩ := cellsS hc2 hlt2 (Below.refl _ _) (World.block_lt_of_cell? wr _ (hc2 (k * 2) (by omega)))
          obtain ⟨f, hfn, hfi, hf1, hf2, -, hf3⟩ := fit_at HV.out hlt2
          have HFI := Lib.hid hfi
          have HN := Lib.hid (lw_succ hfi.1)
          have hlb := (lw_bd HV.out hk).1
          have hkm2 : (k : Int) < (m : Int) := by omega
          clear hfi hc2
          go_wp2_with fail
          refine (implSparesFit_is _ (smi ds k) (ski ds k) cs n _ _ W1.out HFI.out).mono ?_
          rintro e w6 ⟨rfl, b6⟩
          have B6 := Lib.hid (nextW hB.out b6)
          clear b6 f0 f1 W1 W2 hB
          have X1 := Lib.hid (V1.out.old B6.out)
          have X2 := Lib.hid (V2.out.old B6.out)
          obtain ⟨_, _, e2, _, _, _, _, hc2⟩ := X2.out
          cases e2
          obtain ⟨_, _, e3, _, hc2⟩ := hc2 (by omega)
          cases e3
          obtain ⟨f0, -⟩ := cellsS hc2 hlt2 (Below.refl _ _) (World.block_lt_of_cell? w6 _ (hc2 (k * 2) (by omega)))
          obtain ⟨_, _, e2, _, _, _, _, hc1⟩ := X1.out
          cases e2
          obtain ⟨b1, off1, rfl, hb1, hc1⟩ := hc1 (by omega)
          obtain ⟨d0, -⟩ := cellsS hc1 hfn (Below.refl _ _) (World.block_lt_of_cell? w6 _ (hc1 (f * 2) (by omega)))
          have hfn2 : (f : Int) < (n : Int) := by omega
          clear hc1 hc2
          revert hlb HN
          generalize lwTo cs n ds k = S
          intro HN hlb
          revert d0 f0 HN hf1 hf2 hf3
          generalize smi cs f = x
          generalize smi ds k = y
          intro hf1 hf2 hf3 f0 d0 HN
          have w1 : IntKind.i64.wrap (S + x) = S + x := IntWalk.i64_in _ (by omega)
          have w2 : IntKind.i64.wrap (S + x - y) = S + x - y := IntWalk.i64_in _ (by omega)
          go_wp2
          go_quiet (fail)
          clear w1 w2
          go_wp2
          go_roundw
          case rel => exact ⟨k + 1, by omega, by go_num, by rw [HN.out], Lib.hid (below_drewN B6.out _)⟩
          case measure => simp [intOf]; omega
        · obtain rfl : k = m := by omega
          have X1 := Lib.hid (V1.out.old hB.out)
          have X2 := Lib.hid (V2.out.old hB.out)
          have X4 := Lib.hid (V4.out.old hB.out)
          have hLD := hLM.out
          revert hLD
          generalize lwTo cs n ds k = S
          intro hLD
          have hLD2 : decide (S ≤ M) = true := decide_eq_true hLD
          go_wp2_with fail
          refine (implServeWaste_is _ _ _ cs ds L n k _ _ _ _ X1.out X2.out X4.out HQ.out).mono ?_
          rintro e w7 ⟨rfl, b7⟩
          go_wp2
          go_ret
          exact ⟨rfl, nextW B.out (nextW hB.out b7)⟩
  · have hlt : decide ((1048576 : Int) < (len0 : Int)) = true := decide_eq_true (by omega)
    go_enter Try.func18, Try.ntmps18
    go_wp2
    go_ret
    exact ⟨rfl, Below.refl _ _⟩

set_option maxRecDepth 100000 in
theorem lifted (os : Os) (started : os.Started) (H : Type) (enc : TypeId × Value → H) :
    ReturnsInHanded {} Try.checked os 18 .any (Rows.fnServeWasteSpec.pre6 enc Try.prog Try.f18 Rows.fnServeWasteRow.domain false) (Rows.fnServeWasteSpec.post enc Try.prog Try.f18 false true false false) := by
  refine returnsInHanded_of_change (C := Try.checked) own started (by kernel_rfl) Try.func18
    (ChangeSpec.witness6 (enc := enc) (C := Try.checked) false ⟨#[], #[.slice none 0 0], []⟩ 8 (by kernel_rfl) (by kernel_rfl) (by kernel_rfl) (by kernel_rfl)) ?_
  intro W base args ds gs before hval0 hW hcnd _
  have hval : ∀ (j : Nat) t v, Try.f18.params[j]? = some t → args[j]? = some v → Value.okWide Try.prog W .any base t v := hval0
  have hW' := hW
  obtain ⟨p, q, hA0, hV, rfl, hfz, hnd⟩ := hW
  have hA : DataW.TrodAll enc Try.prog W 0 (fun _ => true) true Try.f18.params.toList args.toList ds p := hA0
  rw [Try.params18] at hA hval
  obtain ⟨v0, vs0, d0, ds0, p0, q0, hargs, rfl, rfl, h0, r0⟩ := trodAll_cons hA
  obtain ⟨rfl, rfl, rfl⟩ := trodAll_nil r0
  obtain rfl : args = #[v0] := by cases args; simp_all
  obtain ⟨rfl, rfl⟩ := trodVars_none hV
  obtain ⟨a0, len0, cap0, rfl⟩ := okWide_slice Try.underlying48 (hval 0 48 v0 rfl rfl)
  have k0 := h0
  have lt0 : ∀ x ∈ p0, x.block < W.heap.size := by obtain ⟨m, hm⟩ := k0; exact DataW.trod_lt m _ _ _ hm
  obtain ⟨z0, w0⟩ := by0_of h0
  clear hA0 hval0
  refine (walk a0 len0 cap0 z0 W w0).mono fun e W' ⟨he, bel⟩ => ?_
  subst he
  exact ⟨_, rfl, _, _, _, [], _, [], hW', trodAll_mk1 (shut_bool Try.underlying4 _), (trodAll_cons_mk (Below.trod laidOut (by kernel_rfl) (of_decide_eq_true (by kernel_rfl)) k0 bel lt0) trodAll_mk0), rfl, bel.frame _, fun h => by cases h⟩

theorem over : Rows.fnServeWasteRow.holds Try.pinned (OpenSpec.ofChange Rows.fnServeWasteSpec) :=
  OpenClaim.holds_of_wide 18 Try.f18 rfl rfl rfl rfl rfl rfl rfl ⟨rfl, rfl, rfl, rfl, rfl⟩ rfl rfl rfl rfl rfl (by kernel_rfl) Try.func18 (facts_of signs (by kernel_rfl))
    (of_decide_eq_true (by kernel_rfl)) (by unfold Func.isWrapper; first | (rw [if_pos (by decide +kernel)]; kernel_rfl) | (rw [if_neg (by decide +kernel)]; exact ⟨rfl, rfl⟩))
    (fun os started H enc _ => lifted os started H enc)

theorem proved : Rows.FnServeWasteSaid := over
#print axioms proved

end Go.Proofs.Ythbkimojbbkeiaa.fnServeWaste
