/- FnServeMany: servings are counted by their first need. -/
import Derived.Test.YthbkimojbbkeiaaLawD
import Derived.Test.YthbkimojbbkeiaaSvDel
import Derived.Deep.CutRange
namespace Go.Proofs.Ythbkimojbbkeiaa.fnServeMany
open Go.ChangeShapes Go.WideShapes Go.ChangeAt Go.RowKit
set_option linter.unusedVariables false

theorem implServeMany_is {M : Int} (v1 v2 : Value) (cs ds : List Int) (n m h1 h2 : Nat) (w : World) (hv1 : SlF 2 w h1 v1 cs n) (hv2 : SlF 2 w h2 v2 ds m) (h : smI cs n ds m = M) :
    Calls Try.prog 37 #[v1, v2] w fun e w' => e = .returned (.int .i64 M) ∧ Below w.heap.size w w' := h ▸ implServeMany_b v1 v2 cs ds n m h1 h2 w hv1 hv2
theorem specServeMany_is {M : Int} (v1 v2 : Value) (cs ds : List Int) (n m h1 h2 : Nat) (w : World) (hv1 : SlF 2 w h1 v1 cs n) (hv2 : SlF 2 w h2 v2 ds m) (h : smI cs n ds m = M) :
    Calls Try.prog 36 #[v1, v2] w fun e w' => e = .returned (.int .i64 M) ∧ Below w.heap.size w w' := h ▸ specServeMany_b v1 v2 cs ds n m h1 h2 w hv1 hv2

set_option maxRecDepth 100000 in
set_option maxHeartbeats 4000000 in
theorem walk (a0 : Option Addr) (len0 cap0 : Nat) (z0 : Unit) (w : World) (h0 : By w w.heap.size (.slice a0 len0 cap0) len0) :
    Calls Try.prog 10 #[.slice a0 len0 cap0] w fun e w' => e = .returned (.bool true) ∧ Below w.heap.size w w' := by
  by_cases hn : len0 ≤ 1048576
  · have hlt : decide ((1048576 : Int) < (len0 : Int)) = false := by simp; omega
    go_enter Try.func10, Try.ntmps10
    go_wp2_with fail
    refine (drawServeMany_any _ len0 w.heap.size w h0 (Nat.le_refl _)).mono ?_
    rintro e w1 ⟨v1, v2, rfl, hd⟩
    obtain ⟨cs, n, ds, m, b1, s1, s2, hn12, hm4⟩ := hd.out
    obtain ⟨M, hM⟩ : ∃ M, smI cs n ds m = M := ⟨_, rfl⟩
    have HM := Lib.hid hM
    have B := Lib.hid b1
    have V1 := Lib.hid s1
    have V2 := Lib.hid s2
    obtain ⟨a1, cap1, rfl, hl1, -⟩ := s1
    obtain ⟨a2, cap2, rfl, hl2, hm20, hmc, -, -⟩ := s2
    have HL1 := Lib.hid hl1
    have HL2 := Lib.hid hl2
    clear hd b1 hM hl1 hl2 hlt
    go_wp2_with fail
    refine (implServeMany_is _ _ cs ds n m _ _ _ V1.out V2.out HM.out).mono ?_
    rintro e w2 ⟨rfl, b⟩
    replace B := Lib.hid (nextW B.out b)
    replace V1 := Lib.hid (V1.out.old b)
    replace V2 := Lib.hid (V2.out.old b)
    clear b
    go_wp2_with fail
    refine (specServeMany_is _ _ cs ds n m _ _ _ V1.out V2.out HM.out).mono ?_
    rintro e w3 ⟨rfl, b⟩
    replace B := Lib.hid (nextW B.out b)
    replace V1 := Lib.hid (V1.out.old b)
    replace V2 := Lib.hid (V2.out.old b)
    clear b
    by_cases hM0 : M < 0
    · have hd0 : decide (M < 0) = true := decide_eq_true hM0
      go_wp2_with fail
      go_ret
      exact ⟨rfl, B.out⟩
    · have hd0 : decide (M < 0) = false := decide_eq_false hM0
      have hbb : bothB cs n ds m = true := by
        cases e : bothB cs n ds m with
        | true => rfl
        | false =>
          have := HM.out
          unfold smI at this
          rw [e] at this
          simp at this; omega
      have HBB := Lib.hid (both_bd hbb)
      have HMM : Hid (((manyI cs ds n m [] : Nat) : Int) = M) := Lib.hid (by have := HM.out; unfold smI at this; rw [if_pos hbb] at this; exact this)
      have hn10 := HBB.out.1.1
      clear hbb
      by_cases hm0 : m = 0
      · subst hm0
        have hM1 : M = 1 := by rw [← HMM.out]; simp [manyI, servs]
        subst hM1
        go_wp2_with fail
        go_ret
        exact ⟨rfl, B.out⟩
      · obtain ⟨m', rfl⟩ : ∃ m', m = m' + 1 := ⟨m - 1, by omega⟩
        have hmne : (((m' + 1 : Nat) : Int) == 0) = false := by simp; omega
        have hmne2 : ((m' : Int) + 1 == 0) = false := by simp; omega
        have HSUM : Hid (((fstTo cs ds n m' n : Nat) : Int) = M) := Lib.hid (by rw [← HMM.out, many_first HL1.out]; rfl)
        obtain ⟨_, _, e2, _, _, _, _, hc2⟩ := V2.out
        cases e2
        obtain ⟨b2, off2, rfl, hb2, hc2⟩ := hc2 (by omega)
        have F0 := Lib.hid (cellsS hc2 (by omega : 0 < m' + 1) (Below.refl _ _) (World.block_lt_of_cell? w3 _ (hc2 0 (by omega))))
        clear hc2 hd0
        go_wp2_with fail
        go_loopw [7, 8] (fun s i wr => ∃ k : Nat, k ≤ n ∧ i = .int .i64 k ∧ s = .int .i64 ((fstTo cs ds n m' k : Nat) : Int) ∧ Hid (Below w3.heap.size w3 wr)) (fun _ i _ => n - (intOf i).toNat)
        case atStart => exact ⟨0, Nat.zero_le _, rfl, rfl, Below.refl _ _⟩
        case round =>
          obtain ⟨k, hk, rfl, rfl, hB⟩ := hrel
          by_cases hltk : k < n
          · have W1 := Lib.hid (V1.out.old hB.out)
            have W2 := Lib.hid (V2.out.old hB.out)
            obtain ⟨_, _, e2, _, _, hnc, _, hc1⟩ := W1.out
            cases e2
            obtain ⟨b1, off1, rfl, hb1, hc1⟩ := hc1 (by omega)
            obtain ⟨d0, d1⟩ := cellsS hc1 hltk (Below.refl _ _) (World.block_lt_of_cell? wr _ (hc1 (k * 2) (by omega)))
            have f0 := cellB F0.out.1 hB.out
            have f1 := cellB F0.out.2 hB.out
            simp only [Nat.zero_mul, Nat.add_zero] at f0 f1
            have p0 := cell_regrown d0
            have p1 := cell_regrown d1
            have q0 := cell_regrown f0
            have q1 := cell_regrown f1
            have HNo := Lib.hid fun h => fstTo_no (cs := cs) (ds := ds) (n := n) (m := m') (k := k) h
            have HYes := Lib.hid fun h => fstTo_yes (cs := cs) (ds := ds) (n := n) (m := m') (k := k) h
            have hbd := fstTo_bd (cs := cs) (ds := ds) (n := n) (m := m') hn10 (by omega) (k := k)
            have hbd2 := many_bd5 (cs := del cs k) (ds := ds.drop 2) (n := n - 1) (d := m') (p := []) (by omega) (by omega)
            have HS : Hid (srB (smi cs k) (ski cs k) (smi ds 0) (ski ds 0) = (decide (ski cs k = ski ds 0) && decide (smi ds 0 ≤ smi cs k))) := Lib.hid rfl
            have HBD : Hid (smI (del cs k) (n - 1) (ds.drop 2) m' = ((manyI (del cs k) (ds.drop 2) (n - 1) m' [] : Nat) : Int)) := Lib.hid (by
              unfold smI
              rw [if_pos (both_of (by omega) (spTo_del HL1.out hltk HBB.out.1.2) (by omega) (spTo_tail HBB.out.2.2))])
            have hkn2 : (k : Int) < (n : Int) := by omega
            have hm2 : (0 : Int) < (m' : Int) + 1 := by omega
            revert HNo HYes hbd hbd2 HBD
            generalize fstTo cs ds n m' k = S
            generalize manyI (del cs k) (ds.drop 2) (n - 1) m' [] = T
            intro HNo HYes hbd hbd2 HBD
            by_cases he : ski cs k = ski ds 0
            · have t1 : (ski cs k == ski ds 0) = true := by simp [he]
              by_cases hg : smi ds 0 ≤ smi cs k
              · have t2 : decide (smi ds 0 ≤ smi cs k) = true := decide_eq_true hg
                have HN := Lib.hid (HYes.out (by rw [HS.out, t2, decide_eq_true he]; rfl))
                clear HNo HYes HS he hg
                go_wp2_with fail
                refine wp_region_quiet_below (by kernel_rfl) (by kernel_rfl) ?_
                repeat (any_goals (first | go_big_quiet_step ((fail)) | quiet_step ((fail))))
                refine wpQuiet_nil ?_
                intro _ hw'
                obtain ⟨⟨dq, osq⟩, hw''⟩ := hw'
                subst hw''
                have bq := below_regrown (wr) dq osq
                revert bq
                generalize Go.Sort.grow (redrawn (wr) dq) osq = wq
                intro bq
                clear d0 d1 f0 f1 p0 p1 q0 q1
                go_upto_region 15 with (fail)
                have X1 := Lib.hid (W1.out.old bq)
                have X2 := Lib.hid (W2.out.old bq)
                have B1 := Lib.hid (nextW hB.out bq)
                clear bq W1 W2 hB
                obtain ⟨_, _, e2, _, _, _, _, hc1⟩ := X1.out
                cases e2
                obtain ⟨_, _, e3, _, hc1⟩ := hc1 (by omega)
                cases e3
                have SRC1 := Lib.hid (src_takeP (cap := cap1) HL1.out (Nat.le_of_lt hltk) hc1)
                have SRC2 := Lib.hid (src_dropP (cap := cap1 - (k + 1)) HL1.out (show k + 1 ≤ n from hltk) hc1)
                have OW := Lib.hid (OwP.empty wq wq.heap.size (Nat.le_refl _))
                clear hc1
                have hkc : k ≤ cap1 := by omega
                have hk1 : k + 1 ≤ n := hltk
                have hk1i : (k : Int) + 1 ≤ (n : Int) := by omega
                have hk2i : (k : Int) + 1 ≤ (cap1 : Int) := by omega
                have BA := Lib.hid (below_drewN ((Below.refl wq.heap.size wq).alloc (Nat.le_refl _) (.cells #[] 35)) 1)
                have hlk : k ≤ 1048576 := by omega
                have hld : n - (k + 1) ≤ 1048576 := by omega
                go_cut [9] from 67 to 76 (fun v wc => OwP wc wq.heap.size v (del cs k) (n - 1) ∧ Below wq.heap.size wq wc)
                case first =>
                  have hw1 : IntKind.i64.wrap ((k : Int) + 1) = (k : Int) + 1 := IntWalk.i64_in _ (by omega)
                  have hw2 : (0 : Int) ≤ (k : Int) + 1 := by omega
                  have hw3 : ((k : Int) + 1).toNat = k + 1 := by omega
                  by_cases hcy : cap1 = k + 1
                  · have SR2 : Hid (SrcP wq (.slice (some ⟨b1, off1, none⟩) 0 0) (cs.drop ((k + 1) * 2)) 0) := Lib.hid (by
                      have hz : cs.drop ((k + 1) * 2) = [] := List.drop_eq_nil_of_le (by rw [HL1.out]; omega)
                      rw [hz]
                      exact .inr ⟨b1, off1, 0, rfl, rfl, fun j hj => absurd hj (by omega)⟩)
                    have hnk : n - 1 = 0 + k + 0 := by omega
                    subst hcy
                    have hkk : (k : Int) ≤ (k : Int) + 1 := by omega
                    go_region_law (first | (refine step_appP (.tmp 67) (.tmp 70) (show OwP (World.drewN _ 1) _ _ _ _ from OW.out) (SRC1.out.old BA.out) rfl rfl rfl rfl (by omega) hlk (by simp) ?_; intro v6 w6 own6 b6; have BB := Lib.hid (BA.out.trans b6); have OW6 := Lib.hid own6; have hz6 := BB.out.size; clear own6 b6) | (refine step_appP (.tmp 71) (.tmp 75) OW6.out (SR2.out.old BB.out) rfl rfl rfl rfl (by omega) (by omega) hz6 ?_; intro v7 w7 own7 b7))
                    all_goals
                      clear hw1 hw2 hw3
                      go_wp2_with fail
                      go_meet
                      case rel => exact ⟨by rw [hnk]; exact own7, BB.out.trans b7⟩
                  · have SR2 : Hid (SrcP wq (.slice (some ⟨b1, off1 + (k + 1) * 2, none⟩) (n - (k + 1)) (cap1 - (k + 1))) (cs.drop ((k + 1) * 2)) (n - (k + 1))) := Lib.hid SRC2.out
                    have hnk : n - 1 = 0 + k + (n - (k + 1)) := by omega
                    go_region_law (first | (refine step_appP (.tmp 67) (.tmp 70) (show OwP (World.drewN _ 1) _ _ _ _ from OW.out) (SRC1.out.old BA.out) rfl rfl rfl rfl (by omega) hlk (by simp) ?_; intro v6 w6 own6 b6; have BB := Lib.hid (BA.out.trans b6); have OW6 := Lib.hid own6; have hz6 := BB.out.size; clear own6 b6) | (refine step_appP (.tmp 71) (.tmp 75) OW6.out (SR2.out.old BB.out) rfl rfl rfl rfl (by omega) hld hz6 ?_; intro v7 w7 own7 b7))
                    all_goals
                      clear hw1 hw2 hw3
                      go_wp2_with fail
                      go_meet
                      case rel => exact ⟨by rw [hnk]; exact own7, BB.out.trans b7⟩
                case rest =>
                  obtain ⟨hown, hbel⟩ := hcut
                  have D1 := Lib.hid (hown.wr (by omega)).sl
                  obtain ⟨ra, rc, rfl, -⟩ := hown.form0
                  have Z2 := X2.out.old hbel
                  have B2 := Lib.hid (nextW B1.out hbel)
                  clear SRC1 SRC2 OW BA hown hbel X1 X2 B1
                  by_cases hc21 : cap2 = 1
                  · subst hc21
                    have hm00 : Hid (m' = 0) := Lib.hid (by omega)
                    have D2 : Hid (SlF 2 wc 0 (.slice (some ⟨b2, off2, none⟩) 0 0) (ds.drop 2) 0) := Lib.hid (by
                      have h2 := HL2.out
                      rw [hm00.out] at h2
                      exact slF_empty h2)
                    have HBZ : Hid (smI (del cs k) (n - 1) (ds.drop 2) 0 = (T : Int)) := Lib.hid (by have := HBD.out; rw [hm00.out] at this; exact this)
                    go_wp2_with fail
                    refine (implServeMany_is _ _ (del cs k) (ds.drop 2) (n - 1) 0 _ _ _ D1.out D2.out HBZ.out).mono ?_
                    rintro e w8 ⟨rfl, b8⟩
                    have B8 := Lib.hid (nextW B2.out b8)
                    clear b8
                    go_wp2_with fail
                    go_roundw
                    case rel => exact ⟨k + 1, by omega, by go_num, by rw [HN.out, Int.natCast_add], B8⟩
                    case measure => simp [intOf]; omega
                  · have D2 := Lib.hid (slF_tail Z2)
                    go_wp2_with fail
                    refine (implServeMany_is _ _ (del cs k) (ds.drop 2) (n - 1) m' _ _ _ D1.out D2.out HBD.out).mono ?_
                    rintro e w8 ⟨rfl, b8⟩
                    have B8 := Lib.hid (nextW B2.out b8)
                    clear b8
                    go_wp2_with fail
                    go_roundw
                    case rel => exact ⟨k + 1, by omega, by go_num, by rw [HN.out, Int.natCast_add], B8⟩
                    case measure => simp [intOf]; omega
              · have t2 : decide (smi ds 0 ≤ smi cs k) = false := decide_eq_false hg
                have HN := Lib.hid (HNo.out (by rw [HS.out, t2]; simp))
                clear HNo HYes HS he hg
                go_wp2_with fail
                refine wp_region_quiet_below (by kernel_rfl) (by kernel_rfl) ?_
                repeat (any_goals (first | go_big_quiet_step ((fail)) | quiet_step ((fail))))
                refine wpQuiet_nil ?_
                intro _ hw'
                obtain ⟨⟨dq, osq⟩, hw''⟩ := hw'
                subst hw''
                have bq := below_regrown (wr) dq osq
                revert bq
                generalize Go.Sort.grow (redrawn (wr) dq) osq = wq
                intro bq
                clear d0 d1 f0 f1 p0 p1 q0 q1
                go_wp2_with fail
                go_roundw
                case rel => exact ⟨k + 1, by omega, by go_num, by rw [HN.out], Lib.hid (nextW hB.out bq)⟩
                case measure => simp [intOf]; omega
            · have t1 : (ski cs k == ski ds 0) = false := by simp [he]
              have HN := Lib.hid (HNo.out (by rw [HS.out, decide_eq_false he]; rfl))
              clear HNo HYes HS he
              go_wp2_with fail
              refine wp_region_quiet_below (by kernel_rfl) (by kernel_rfl) ?_
              repeat (any_goals (first | go_big_quiet_step ((fail)) | quiet_step ((fail))))
              refine wpQuiet_nil ?_
              intro _ hw'
              obtain ⟨⟨dq, osq⟩, hw''⟩ := hw'
              subst hw''
              have bq := below_regrown (wr) dq osq
              revert bq
              generalize Go.Sort.grow (redrawn (wr) dq) osq = wq
              intro bq
              clear d0 d1 f0 f1 p0 p1 q0 q1
              go_wp2_with fail
              go_roundw
              case rel => exact ⟨k + 1, by omega, by go_num, by rw [HN.out], Lib.hid (nextW hB.out bq)⟩
              case measure => simp [intOf]; omega
          · obtain rfl : n = k := by omega
            rw [HSUM.out]
            go_wp2_with fail
            go_ret
            exact ⟨rfl, nextW B.out hB.out⟩
  · have hlt : decide ((1048576 : Int) < (len0 : Int)) = true := by simp; omega
    go_enter Try.func10, Try.ntmps10
    go_wp2
    go_ret
    exact ⟨rfl, Below.refl _ _⟩

set_option maxRecDepth 100000 in
theorem lifted (os : Os) (started : os.Started) (H : Type) (enc : TypeId × Value → H) :
    ReturnsInHanded {} Try.checked os 10 .any (Rows.fnServeManySpec.pre6 enc Try.prog Try.f10 Rows.fnServeManyRow.domain false) (Rows.fnServeManySpec.post enc Try.prog Try.f10 false true false false) := by
  refine returnsInHanded_of_change (C := Try.checked) own started (by kernel_rfl) Try.func10
    (ChangeSpec.witness6 (enc := enc) (C := Try.checked) false ⟨#[], #[.slice none 0 0], []⟩ 8 (by kernel_rfl) (by kernel_rfl) (by kernel_rfl) (by kernel_rfl)) ?_
  intro W base args ds gs before hval0 hW hcnd _
  have hval : ∀ (j : Nat) t v, Try.f10.params[j]? = some t → args[j]? = some v → Value.okWide Try.prog W .any base t v := hval0
  have hW' := hW
  obtain ⟨p, q, hA0, hV, rfl, hfz, hnd⟩ := hW
  have hA : DataW.TrodAll enc Try.prog W 0 (fun _ => true) true Try.f10.params.toList args.toList ds p := hA0
  rw [Try.params10] at hA hval
  obtain ⟨v0, vs0, d0, ds0, p0, q0, hargs, rfl, rfl, h0, r0⟩ := trodAll_cons hA
  obtain ⟨rfl, rfl, rfl⟩ := trodAll_nil r0
  obtain rfl : args = #[v0] := by cases args; simp_all
  obtain ⟨rfl, rfl⟩ := trodVars_none hV
  obtain ⟨a0, len0, cap0, rfl⟩ := okWide_slice Try.underlying48 (hval 0 48 v0 rfl rfl)
  have k0 := h0
  have lt0 : ∀ x ∈ p0, x.block < W.heap.size := by obtain ⟨m, hm⟩ := k0; exact DataW.trod_lt m _ _ _ hm
  obtain ⟨z0, w0⟩ := by0_of h0
  clear hA0 hval0
  refine (walk a0 len0 cap0 z0 W w0).mono fun e W' ⟨he, bel⟩ => ?_
  subst he
  exact ⟨_, rfl, _, _, _, [], _, [], hW', trodAll_mk1 (shut_bool Try.underlying4 _), (trodAll_cons_mk (Below.trod laidOut (by kernel_rfl) (of_decide_eq_true (by kernel_rfl)) k0 bel lt0) trodAll_mk0), rfl, bel.frame _, fun h => by cases h⟩

theorem over : Rows.fnServeManyRow.holds Try.pinned (OpenSpec.ofChange Rows.fnServeManySpec) :=
  OpenClaim.holds_of_wide 10 Try.f10 rfl rfl rfl rfl rfl rfl rfl ⟨rfl, rfl, rfl, rfl, rfl⟩ rfl rfl rfl rfl rfl (by kernel_rfl) Try.func10 (facts_of signs (by kernel_rfl))
    (of_decide_eq_true (by kernel_rfl)) (by unfold Func.isWrapper; first | (rw [if_pos (by decide +kernel)]; kernel_rfl) | (rw [if_neg (by decide +kernel)]; exact ⟨rfl, rfl⟩))
    (fun os started H enc _ => lifted os started H enc)

theorem proved : Rows.FnServeManySaid := over
#print axioms proved

end Go.Proofs.Ythbkimojbbkeiaa.fnServeMany
