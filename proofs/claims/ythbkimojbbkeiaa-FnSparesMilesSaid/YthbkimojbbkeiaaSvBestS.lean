/- Contract: ServeBest of the reference. -/
import Derived.Test.YthbkimojbbkeiaaSvBest
namespace Go.Proofs.Ythbkimojbbkeiaa
open Go.RowKit

/-- What the walk of the best knows at need k: the list so far leads to the best. -/
def bestAt (cs ds : List Int) (n m : Nat) (p : List Int) : Prop := p.length ≤ m ∧ grd cs ds n (m - p.length) p = grd cs ds n m [] ∧ 0 ≤ leastI cs ds n (m - p.length) p
/-- The spare that is taken next. -/
theorem best_next {cs ds : List Int} {n m d : Nat} {p : List Int} (h : bestAt cs ds n m p) (hd : m - p.length = d + 1) :
    ∃ j, j < n ∧ fstAt cs ds p (fun k => leastI cs ds n d (p ++ [(k : Int)])) (leastI cs ds n (d + 1) p) j ∧ bestAt cs ds n m (p ++ [(j : Int)]) := by
  obtain ⟨h0, h1, h2⟩ := h
  have hle : ∀ j : Nat, (p ++ [(j : Int)]).length ≤ m := fun j => by rw [List.length_append, List.length_singleton]; omega
  have hl' : ∀ j : Nat, m - (p ++ [(j : Int)]).length = d := fun j => by rw [List.length_append, List.length_singleton]; omega
  rw [hd] at h1 h2
  have F := leTo_first (cs := cs) (ds := ds) (p := p) (f := fun k => leastI cs ds n d (p ++ [(k : Int)])) (k := n)
  have h2' := h2
  rw [leastI] at h2'
  obtain ⟨⟨j, hj, hf⟩, _⟩ := F.2 h2'
  have e : fstK cs ds p (fun k => leastI cs ds n d (p ++ [(k : Int)])) (leastI cs ds n (d + 1) p) n = j := by
    rw [leastI, fstK_eq hf]; omega
  have hl := hl' j
  refine ⟨j, hj, hf, hle j, ?_, ?_⟩
  · rw [hl, ← h1, grd, e]
  · rw [hl]; exact hf.2.1

set_option maxRecDepth 100000 in
set_option maxHeartbeats 8000000 in
theorem specServeBest_b (v1 v2 : Value) (cs ds : List Int) (n m h1 h2 : Nat) (w : World) (hv1 : SlF 2 w h1 v1 cs n) (hv2 : SlF 2 w h2 v2 ds m) :
    Calls Try.prog 54 #[v1, v2] w fun e w' => ∃ v', e = .returned (.tuple #[v', .bool (scB cs n ds m)]) ∧ Hid (Below w.heap.size w w') ∧ Hid (OwI w' w.heap.size v' (sbL cs n ds m)) := by
  have HV1 := Lib.hid hv1
  have HV2 := Lib.hid hv2
  have bx := (Below.refl w.heap.size w).alloc (Nat.le_refl _) (.cells #[] 3)
  have BX := Lib.hid bx
  have OW := Lib.hid (OwI.empty w w.heap.size (Nat.le_refl _))
  have V1 := Lib.hid (hv1.old bx)
  have V2 := Lib.hid (hv2.old bx)
  obtain ⟨a1, cap1, rfl, -⟩ := hv1
  obtain ⟨a2, cap2, rfl, -⟩ := hv2
  clear bx
  cases e1 : scB cs n ds m with
  | false =>
    have HR : Hid (sbL cs n ds m = []) := Lib.hid (by simp [sbL, e1])
    go_enter Try.func54, Try.ntmps54
    go_wp2_with fail
    refine (specServeCan_is _ _ cs ds n m _ _ _ V1.out V2.out e1).mono ?_
    rintro e w1 ⟨rfl, b1⟩
    have B1 := Lib.hid (nextW BX.out b1)
    have O1 := Lib.hid (OW.out.below b1)
    clear b1
    go_wp2_with fail
    go_ret2
    exact ⟨_, rfl, B1, by rw [HR.out]; exact O1⟩
  | true =>
    have HR : Hid (sbL cs n ds m = grd cs ds n m []) := Lib.hid (by simp [sbL, e1])
    have HM := Lib.hid (both_bd (Bool.and_eq_true_iff.1 e1).1)
    have HB0 : Hid (bestAt cs ds n m []) := Lib.hid ⟨by simp, rfl, of_decide_eq_true (Bool.and_eq_true_iff.1 e1).2⟩
    go_enter Try.func54, Try.ntmps54
    go_wp2_with fail
    refine (specServeCan_is _ _ cs ds n m _ _ _ V1.out V2.out e1).mono ?_
    rintro e w1 ⟨rfl, b1⟩
    have B1 := Lib.hid (nextW BX.out b1)
    have O1 := Lib.hid (OW.out.below b1)
    clear b1 e1 OW BX V1 V2
    go_wp2_with fail
    go_loopw [6, 7] (fun s i wr => ∃ p : List Int, p.length ≤ m ∧ i = .int .i64 (p.length : Int) ∧ Hid (OwI wr w.heap.size s p) ∧ Hid (Below w.heap.size w wr) ∧ Hid (bestAt cs ds n m p)) (fun _ i _ => m - (intOf i).toNat)
    case atStart => exact ⟨[], by simp, rfl, O1, B1, HB0⟩
    case round =>
      clear O1 B1 HB0
      obtain ⟨p, hpm, rfl, hO, hB, hA⟩ := hrel
      obtain ⟨sa, sl, sc, rfl, hsl⟩ := hO.out.form3
      obtain ⟨l, hl⟩ : ∃ l, p.length = l := ⟨_, rfl⟩
      have hsl2 : sl = l := by rw [← hsl.out, hl]
      subst hsl2
      rw [hl] at hpm ⊢
      have HL := Lib.hid hl
      by_cases hlm : sl < m
      · obtain ⟨d, hd⟩ : ∃ d, m - p.length = d + 1 := ⟨m - p.length - 1, by omega⟩
        have hdm : p.length + (d + 1) = m := by omega
        obtain ⟨j, hj, hf, hN⟩ := best_next hA.out hd
        obtain ⟨L, hL⟩ : ∃ L, leastI cs ds n (d + 1) p = L := ⟨_, rfl⟩
        have HLL := Lib.hid hL
        rw [hL] at hf
        have hbL := leastI_bd HM.out.1.2 HM.out.2.2 (d + 1) p hdm
        rw [hL] at hbL
        have hL2 : L ≤ 300 := by have := HM.out.2.1; omega
        have hL1 : -1 ≤ L := hbL.1
        have HF := Lib.hid hf
        have HNX := Lib.hid hN
        have HD := Lib.hid hdm
        have hn10 := HM.out.1.1
        have s2 := (HM.out.2.2 sl hlm).1
        clear hd hdm hL hf hN hsl hl hbL
        go_wp2_with fail
        refine (l4Least_is _ _ _ cs ds p n m (d + 1) _ _ _ _ HM.out.1.1 HM.out.2.1 HM.out.1.2 HM.out.2.2 HD.out (HV1.out.old hB.out) (HV2.out.old hB.out) (hO.out.rs (by have := HL.out; have := HM.out.2.1; omega)) HLL.out).mono ?_
        rintro e w2 ⟨rfl, b2⟩
        have B2 := Lib.hid (nextW hB.out b2)
        have O2 := Lib.hid (hO.out.below b2)
        clear b2 hO hB hA
        go_wp2_with fail
        go_loopw [6, 9] (fun s i wr => ∃ x : Nat, x ≤ j ∧ i = .int .i64 x ∧ s = .slice sa sl sc ∧ Hid (OwI wr w.heap.size (.slice sa sl sc) p) ∧ Hid (Below w.heap.size w wr)) (fun _ i _ => n - (intOf i).toNat)
        case atStart => exact ⟨0, Nat.zero_le _, rfl, rfl, O2, B2⟩
        case round =>
          clear O2 B2
          obtain ⟨k, hk, rfl, rfl, hO, hB⟩ := hrel
          have hkn : k < n := by omega
          have HO : Hid (okAt cs ds p k = (!memB p (k : Int) && srB (smi cs k) (ski cs k) (smi ds sl) (ski ds sl))) := Lib.hid (by rw [okAt, HL.out])
          have hbd2 := leastI_bd HM.out.1.2 HM.out.2.2 d (p ++ [(k : Int)]) (by have := HD.out; simp; omega)
          have s1 := (HM.out.1.2 k hkn).1
          have HW : Hid (wsAt cs ds k p.length = smi cs k - smi ds sl) := Lib.hid (by rw [wsAt, HL.out])
          obtain ⟨F, hFF⟩ : ∃ F, leastI cs ds n d (p ++ [(k : Int)]) = F := ⟨_, rfl⟩
          have HFF := Lib.hid hFF
          rw [hFF] at hbd2
          have hF1 : -1 ≤ F := hbd2.1
          have hF2 : F ≤ 250 := by have := HM.out.2.1; have := HD.out; omega
          clear hFF hbd2
          have W1 := Lib.hid (HV1.out.old hB.out)
          have W2 := Lib.hid (HV2.out.old hB.out)
          obtain ⟨_, _, e2, _, _, _, _, hc1⟩ := W1.out
          cases e2
          obtain ⟨b1, off1, rfl, hb1, hc1⟩ := hc1 (by omega)
          obtain ⟨d0, d1⟩ := cellsS hc1 hkn (Below.refl _ _) (World.block_lt_of_cell? wr _ (hc1 (k * 2) (by omega)))
          obtain ⟨_, _, e2, _, _, _, _, hc2⟩ := W2.out
          cases e2
          obtain ⟨b2, off2, rfl, hb2, hc2⟩ := hc2 (by omega)
          obtain ⟨f0, f1⟩ := cellsS hc2 hlm (Below.refl _ _) (World.block_lt_of_cell? wr _ (hc2 (sl * 2) (by omega)))
          clear hc1 hc2
          have D0 := Lib.hid d0
          have F0 := Lib.hid f0
          have p0 := cell_regrown d0
          have p1 := cell_regrown d1
          have q0 := cell_regrown f0
          have q1 := cell_regrown f1
          have hlm2 : (sl : Int) < (m : Int) := by omega
          have hkn2 : (k : Int) < (n : Int) := by omega
          have hp0 : p.length ≤ 1000 := by have := HL.out; have := HM.out.2.1; omega
          have RS0 := Lib.hid (hO.out.rs (by omega))
          have HJ : Hid (okAt cs ds p k = false → k + 1 ≤ j) := Lib.hid fun h => by
            by_cases e : k = j
            · subst e
              have := HF.out.1
              rw [h] at this; cases this
            · omega
          cases hm : memB p (k : Int) with
          | true =>
            have hkj := HJ.out (by rw [HO.out, hm]; rfl)
            go_wp2_with fail
            refine wp_region_quiet_below (by kernel_rfl) (by kernel_rfl) ?_
            repeat (any_goals (first | go_big_quiet_step (((go_at_call 69; exact Calls.regrown_of (l4Has_ib _ p _ _ _ (RS0.out.1.old (below_regrown _ _ _)) hm)))) | quiet_step (((go_at_call 69; exact Calls.regrown_of (l4Has_ib _ p _ _ _ (RS0.out.1.old (below_regrown _ _ _)) hm))))))
            refine wpQuiet_nil ?_
            intro _ hw'
            obtain ⟨⟨dq, osq⟩, hw''⟩ := hw'
            subst hw''
            have bq := below_regrown (wr) dq osq
            revert bq
            generalize Go.Sort.grow (redrawn (wr) dq) osq = wq
            intro bq
            clear d0 d1 f0 f1 p0 p1 q0 q1
            have B3 := Lib.hid (nextW hB.out bq)
            have O3 := Lib.hid (hO.out.below bq)
            clear bq
            go_wp2_with fail
            go_roundw
            case rel => exact ⟨k + 1, hkj, by go_num, rfl, O3, B3⟩
            case measure => simp [intOf]; omega
          | false =>
            cases hs : srB (smi cs k) (ski cs k) (smi ds sl) (ski ds sl) with
            | false =>
              have hkj := HJ.out (by rw [HO.out, hm, hs]; rfl)
              go_wp2_with fail
              refine wp_region_quiet_below (by kernel_rfl) (by kernel_rfl) ?_
              repeat (any_goals (first | go_big_quiet_step ((first | (go_at_call 69; exact Calls.regrown_of (l4Has_ib _ p _ _ _ (RS0.out.1.old (below_regrown _ _ _)) hm)) | (go_at_call 66; exact Calls.regrown_of (specServes_is _ _ _ _ _ hs)))) | quiet_step ((first | (go_at_call 69; exact Calls.regrown_of (l4Has_ib _ p _ _ _ (RS0.out.1.old (below_regrown _ _ _)) hm)) | (go_at_call 66; exact Calls.regrown_of (specServes_is _ _ _ _ _ hs))))))
              refine wpQuiet_nil ?_
              intro _ hw'
              obtain ⟨⟨dq, osq⟩, hw''⟩ := hw'
              subst hw''
              have bq := below_regrown (wr) dq osq
              revert bq
              generalize Go.Sort.grow (redrawn (wr) dq) osq = wq
              intro bq
              clear d0 d1 f0 f1 p0 p1 q0 q1
              have B3 := Lib.hid (nextW hB.out bq)
              have O3 := Lib.hid (hO.out.below bq)
              clear bq
              go_wp2_with fail
              go_roundw
              case rel => exact ⟨k + 1, hkj, by go_num, rfl, O3, B3⟩
              case measure => simp [intOf]; omega
            | true =>
              have HOK : Hid (okAt cs ds p k = true) := Lib.hid (by rw [HO.out, hm, hs]; rfl)
              clear HO HJ
              go_wp2_with fail
              refine wp_region_quiet_below (by kernel_rfl) (by kernel_rfl) ?_
              repeat (any_goals (first | go_big_quiet_step ((first | (go_at_call 69; exact Calls.regrown_of (l4Has_ib _ p _ _ _ (RS0.out.1.old (below_regrown _ _ _)) hm)) | (go_at_call 66; exact Calls.regrown_of (specServes_is _ _ _ _ _ hs)))) | quiet_step ((first | (go_at_call 69; exact Calls.regrown_of (l4Has_ib _ p _ _ _ (RS0.out.1.old (below_regrown _ _ _)) hm)) | (go_at_call 66; exact Calls.regrown_of (specServes_is _ _ _ _ _ hs))))))
              refine wpQuiet_nil ?_
              intro _ hw'
              obtain ⟨⟨dq, osq⟩, hw''⟩ := hw'
              subst hw''
              have bq := below_regrown (wr) dq osq
              revert bq
              generalize Go.Sort.grow (redrawn (wr) dq) osq = wq
              intro bq
              clear d0 d1 f0 f1 p0 p1 q0 q1
              have B1 := Lib.hid (nextW hB.out bq)
              have O1 := Lib.hid (hO.out.below bq)
              have bx := (Below.refl wq.heap.size wq).alloc (Nat.le_refl _) (.cells #[] 3)
              have X1 := Lib.hid (W1.out.old bq)
              have X2 := Lib.hid (W2.out.old bq)
              have X3 := Lib.hid ((O1.out.below bx).src)
              have E0 := Lib.hid (cellB D0.out bq)
              have G0 := Lib.hid (cellB F0.out bq)
              have BX := Lib.hid bx
              have hz1 := B1.out.size
              have hz2 : wq.heap.size ≤ (wq.alloc (.cells #[] 3)).heap.size := by simp
              have OW := Lib.hid (OwI.empty wq wq.heap.size (Nat.le_refl _))
              clear bq bx W1 W2 D0 F0 RS0 hO hB
              go_wp2_with (first | (at_builtin; refine wpList_app OW.out X3.out (by rfl) (by rfl) (by rfl) (by rfl) (by simp) (by omega) hz2 ?_; intro v5 w5 ow5 b5 g5; clear g5; have OW5 := Lib.hid ow5; have B5 := Lib.hid b5; have hz5 := b5.size; clear ow5 b5) | (at_builtin; refine wpList_push OW5.out (by rfl) (by rfl) (by rfl) (by rfl) (by rw [List.nil_append]; omega) (Nat.le_trans hz2 hz5) ?_; intro v6 w6 ow6 b6; have OW6 := Lib.hid ow6; have B6 := Lib.hid b6; clear ow6 b6))
              have bT := (BX.out.trans B5.out).trans B6.out
              have ON := OW6.out
              rw [List.nil_append] at ON
              replace ON := Lib.hid ON
              have RS := Lib.hid (ON.out.rs (by rw [List.length_append, List.length_singleton]; omega))
              have Y1 := Lib.hid (X1.out.old bT)
              have Y2 := Lib.hid (X2.out.old bT)
              have B7 := Lib.hid (nextW B1.out bT)
              have O7 := Lib.hid (O1.out.below bT)
              replace E0 := Lib.hid (cellB E0.out bT)
              replace G0 := Lib.hid (cellB G0.out bT)
              clear bT OW OW5 OW6 X1 X2 X3 B5 B6 BX B1 O1
              go_wp2_with fail
              refine (l4Least_is _ _ _ cs ds (p ++ [(k : Int)]) n m d _ _ _ _ HM.out.1.1 HM.out.2.1 HM.out.1.2 HM.out.2.2 (by have := HD.out; simp; omega) Y1.out Y2.out RS.out HFF.out).mono ?_
              rintro e w7 ⟨rfl, b7⟩
              replace B7 := Lib.hid (nextW B7.out b7)
              replace O7 := Lib.hid (O7.out.below b7)
              replace ON := Lib.hid (owns_mono (ON.out.below b7) hz1)
              have e0 := cellB E0.out b7
              have g0 := cellB G0.out b7
              clear b7 E0 G0 RS Y1 Y2
              have HC : Hid ((0 ≤ F ∧ smi cs k - smi ds sl + F = L) → k = j) := Lib.hid fun h => by
                rcases Nat.lt_or_ge k j with h3 | h3
                · exact absurd ⟨HOK.out, by simp only; rw [HFF.out]; exact h.1, by simp only; rw [HFF.out, HW.out]; exact h.2⟩ (HF.out.2.2.2 k h3)
                · omega
              have HCN : Hid (¬ (0 ≤ F ∧ smi cs k - smi ds sl + F = L) → k + 1 ≤ j) := Lib.hid fun h => by
                by_cases e : k = j
                · subst e
                  have h3 := HF.out.2.1
                  have h4 := HF.out.2.2.1
                  simp only at h3 h4
                  rw [HFF.out] at h3 h4
                  rw [HW.out] at h4
                  exact absurd ⟨h3, h4⟩ h
                · omega
              revert e0 g0 s1 s2 HC HCN
              generalize smi cs k = x
              generalize smi ds sl = y
              intro s2 s1 e0 g0 HC HCN
              have w1 : IntKind.i64.wrap (x - y) = x - y := IntWalk.i64_in _ (by omega)
              have w2 : IntKind.i64.wrap (x - y + F) = x - y + F := IntWalk.i64_in _ (by omega)
              by_cases hF0 : 0 ≤ F
              · have t1 : decide (0 ≤ F) = true := decide_eq_true hF0
                by_cases hE : x - y + F = L
                · have t2 : (x - y + F == L) = true := by simp [hE]
                  obtain rfl := HC.out ⟨hF0, hE⟩
                  clear hE HC HCN
                  go_wp2_with fail
                  go_quiet (fail)
                  clear w1 w2 e0 g0
                  go_wp2_with fail
                  go_roundw
                  case rel => exact ⟨p ++ [(k : Int)], by have := HL.out; simp; omega, by rw [List.length_append, List.length_singleton, HL.out]; go_num, Lib.hid (OwI.drewN ON.out _), Lib.hid (below_drewN B7.out _), HNX⟩
                  case measure => simp [intOf]; omega
                · have t2 : (x - y + F == L) = false := by simp [hE]
                  have hkj := HCN.out (fun h => hE h.2)
                  clear HC HCN
                  go_wp2_with fail
                  go_quiet (fail)
                  clear w1 w2 e0 g0
                  go_wp2_with fail
                  go_roundw
                  case rel => exact ⟨k + 1, hkj, by go_num, rfl, Lib.hid (O7.out.drewN _), Lib.hid (below_drewN B7.out _)⟩
                  case measure => simp [intOf]; omega
              · have t1 : decide (0 ≤ F) = false := decide_eq_false hF0
                have hkj := HCN.out (fun h => hF0 h.1)
                clear HC HCN
                go_wp2_with fail
                go_quiet (fail)
                clear w1 w2 e0 g0
                go_wp2_with fail
                go_roundw
                case rel => exact ⟨k + 1, hkj, by go_num, rfl, Lib.hid (O7.out.drewN _), Lib.hid (below_drewN B7.out _)⟩
                case measure => simp [intOf]; omega
      · obtain rfl : sl = m := by omega
        have HE : Hid (p = grd cs ds n sl []) := Lib.hid (by
          have := hA.out.2.1
          rw [HL.out, Nat.sub_self] at this
          exact this)
        go_wp2_with fail
        go_ret2
        exact ⟨_, rfl, hB, by rw [HR.out, ← HE.out]; exact hO⟩

end Go.Proofs.Ythbkimojbbkeiaa
