/- Contracts: l4Many and ServeMany of the reference. -/
import Derived.Test.YthbkimojbbkeiaaSvValid
import Derived.Test.YthbkimojbbkeiaaSvCnt
import Derived.Test.YthbkimojbbkeiaaOwI
namespace Go.Proofs.Ythbkimojbbkeiaa
open Go.RowKit

set_option maxRecDepth 100000 in
set_option maxHeartbeats 2000000 in
theorem l4Many_any (v1 v2 : Value) (cs ds : List Int) (n m h1 h2 : Nat) (hn10 : n ≤ 10) (hm5 : m ≤ 5) : ∀ (d : Nat) (p : List Int) (v3 : Value) (h3 : Nat) (w : World), p.length + d = m → SlF 2 w h1 v1 cs n → SlF 2 w h2 v2 ds m → Rs w h3 v3 p →
    Calls Try.prog 72 #[v1, v2, v3] w fun e w' => e = .returned (.int .i64 ((manyI cs ds n d p : Nat) : Int)) ∧ Below w.heap.size w w' := by
  intro d
  induction d with
  | zero =>
    intro p v3 h3 w hd hv1 hv2 hv3
    obtain ⟨⟨a3, l, cap3, rfl, hl, -⟩, -⟩ := hv3
    obtain ⟨a2, cap2, rfl, -⟩ := hv2
    obtain rfl : l = m := by omega
    clear hl hd hv1
    go_enter Try.func72, Try.ntmps72
    go_wp2_with fail
    go_ret
    exact ⟨rfl, Below.refl _ _⟩
  | succ d ih =>
    intro p v3 h3 w hd hv1 hv2 hv3
    have HI := Lib.hid ih
    have V1 := Lib.hid hv1
    have V2 := Lib.hid hv2
    have V3 := Lib.hid hv3
    have HD := Lib.hid hd
    obtain ⟨⟨a3, l, cap3, rfl, hl, -⟩, -⟩ := hv3
    obtain ⟨a2, cap2, rfl, -⟩ := hv2
    obtain ⟨a1, cap1, rfl, -⟩ := hv1
    have hlm : l < m := by omega
    have HL := Lib.hid hl
    have hne : ((l : Int) == (m : Int)) = false := by simp; omega
    clear hl hd ih
    go_enter Try.func72, Try.ntmps72
    go_wp2_with fail
    clear hne
    go_loopw [8, 9] (fun s i wr => ∃ k : Nat, k ≤ n ∧ i = .int .i64 k ∧ s = .int .i64 ((manyTo cs ds n d p k : Nat) : Int) ∧ Hid (Below w.heap.size w wr)) (fun _ i _ => n - (intOf i).toNat)
    case atStart => exact ⟨0, Nat.zero_le _, rfl, rfl, Below.refl _ _⟩
    case round =>
      obtain ⟨k, hk, rfl, rfl, hB⟩ := hrel
      by_cases hlt : k < n
      · have HO : Hid (okAt cs ds p k = (!memB p (k : Int) && srB (smi cs k) (ski cs k) (smi ds l) (ski ds l))) := Lib.hid (by rw [okAt, HL.out])
        have HNo := Lib.hid fun h => manyTo_no (cs := cs) (ds := ds) (n := n) (d := d) (p := p) (k := k) h
        have HYes := Lib.hid fun h => manyTo_yes (cs := cs) (ds := ds) (n := n) (d := d) (p := p) (k := k) h
        have hbd := manyTo_bd (cs := cs) (ds := ds) (n := n) (p := p) hn10 (show d ≤ 5 by have := HD.out; omega) (k := k)
        have hbd2 := many_bd5 (cs := cs) (ds := ds) (n := n) (p := p ++ [(k : Int)]) hn10 (show d ≤ 5 by have := HD.out; omega)
        revert HNo HYes hbd hbd2
        generalize manyTo cs ds n d p k = M
        obtain ⟨M2, hM2⟩ : ∃ M2, manyI cs ds n d (p ++ [(k : Int)]) = M2 := ⟨_, rfl⟩
        have HM2 := Lib.hid hM2
        rw [hM2]
        clear hM2
        intro HNo HYes hbd hbd2
        have W1 := Lib.hid (V1.out.old hB.out)
        have W2 := Lib.hid (V2.out.old hB.out)
        have W3 := Lib.hid (V3.out.old hB.out)
        obtain ⟨_, _, e2, _, _, _, _, hc1⟩ := W1.out
        cases e2
        obtain ⟨b1, off1, rfl, hb1, hc1⟩ := hc1 (by omega)
        obtain ⟨d0, d1⟩ := cellsS hc1 hlt (Below.refl _ _) (World.block_lt_of_cell? wr _ (hc1 (k * 2) (by omega)))
        obtain ⟨_, _, e2, _, _, _, _, hc2⟩ := W2.out
        cases e2
        obtain ⟨b2, off2, rfl, hb2, hc2⟩ := hc2 (by omega)
        obtain ⟨f0, f1⟩ := cellsS hc2 hlm (Below.refl _ _) (World.block_lt_of_cell? wr _ (hc2 (l * 2) (by omega)))
        clear hc1 hc2
        have p0 := cell_regrown d0
        have p1 := cell_regrown d1
        have q0 := cell_regrown f0
        have q1 := cell_regrown f1
        have hlm2 : (l : Int) < (m : Int) := by omega
        have hkn2 : (k : Int) < (n : Int) := by omega
        cases hm : memB p (k : Int) with
        | true =>
          have HN := Lib.hid (HNo.out (by rw [HO.out, hm]; rfl))
          clear HNo HYes HO
          go_wp2_with fail
          refine wp_region_quiet_below (by kernel_rfl) (by kernel_rfl) ?_
          repeat (any_goals (first | go_big_quiet_step (((go_at_call 69; exact Calls.regrown_of (l4Has_ib _ p _ _ _ (W3.out.1.old (below_regrown _ _ _)) hm)))) | quiet_step (((go_at_call 69; exact Calls.regrown_of (l4Has_ib _ p _ _ _ (W3.out.1.old (below_regrown _ _ _)) hm))))))
          refine wpQuiet_nil ?_
          intro _ hw'
          obtain ⟨⟨dq, osq⟩, hw''⟩ := hw'
          subst hw''
          have bq := below_regrown (wr) dq osq
          revert bq
          generalize Go.Sort.grow (redrawn (wr) dq) osq = wq
          intro bq
          clear d0 d1 f0 f1 p0 p1 q0 q1
          go_wp2_with fail
          go_roundw
          case rel => exact ⟨k + 1, by omega, by go_num, by rw [HN.out], Lib.hid (nextW hB.out bq)⟩
          case measure => simp [intOf]; omega
        | false =>
          cases hs : srB (smi cs k) (ski cs k) (smi ds l) (ski ds l) with
          | false =>
            have HN := Lib.hid (HNo.out (by rw [HO.out, hm, hs]; rfl))
            clear HNo HYes HO
            go_wp2_with fail
            refine wp_region_quiet_below (by kernel_rfl) (by kernel_rfl) ?_
            repeat (any_goals (first | go_big_quiet_step ((first | (go_at_call 69; exact Calls.regrown_of (l4Has_ib _ p _ _ _ (W3.out.1.old (below_regrown _ _ _)) hm)) | (go_at_call 66; exact Calls.regrown_of (specServes_is _ _ _ _ _ hs)))) | quiet_step ((first | (go_at_call 69; exact Calls.regrown_of (l4Has_ib _ p _ _ _ (W3.out.1.old (below_regrown _ _ _)) hm)) | (go_at_call 66; exact Calls.regrown_of (specServes_is _ _ _ _ _ hs))))))
            refine wpQuiet_nil ?_
            intro _ hw'
            obtain ⟨⟨dq, osq⟩, hw''⟩ := hw'
            subst hw''
            have bq := below_regrown (wr) dq osq
            revert bq
            generalize Go.Sort.grow (redrawn (wr) dq) osq = wq
            intro bq
            clear d0 d1 f0 f1 p0 p1 q0 q1
            go_wp2_with fail
            go_roundw
            case rel => exact ⟨k + 1, by omega, by go_num, by rw [HN.out], Lib.hid (nextW hB.out bq)⟩
            case measure => simp [intOf]; omega
          | true =>
            have HN := Lib.hid (HYes.out (by rw [HO.out, hm, hs]; rfl))
            clear HNo HYes HO
            go_wp2_with fail
            refine wp_region_quiet_below (by kernel_rfl) (by kernel_rfl) ?_
            repeat (any_goals (first | go_big_quiet_step ((first | (go_at_call 69; exact Calls.regrown_of (l4Has_ib _ p _ _ _ (W3.out.1.old (below_regrown _ _ _)) hm)) | (go_at_call 66; exact Calls.regrown_of (specServes_is _ _ _ _ _ hs)))) | quiet_step ((first | (go_at_call 69; exact Calls.regrown_of (l4Has_ib _ p _ _ _ (W3.out.1.old (below_regrown _ _ _)) hm)) | (go_at_call 66; exact Calls.regrown_of (specServes_is _ _ _ _ _ hs))))))
            refine wpQuiet_nil ?_
            intro _ hw'
            obtain ⟨⟨dq, osq⟩, hw''⟩ := hw'
            subst hw''
            have bq := below_regrown (wr) dq osq
            revert bq
            generalize Go.Sort.grow (redrawn (wr) dq) osq = wq
            intro bq
            clear d0 d1 f0 f1 p0 p1 q0 q1
            have B1 := Lib.hid (nextW hB.out bq)
            have bx := (Below.refl wq.heap.size wq).alloc (Nat.le_refl _) (.cells #[] 3)
            have X1 := Lib.hid (W1.out.old bq)
            have X2 := Lib.hid (W2.out.old bq)
            have X3 := Lib.hid ((W3.out.old bq).old bx)
            have BX := Lib.hid bx
            have hz2 : wq.heap.size ≤ (wq.alloc (.cells #[] 3)).heap.size := by simp
            have OW := Lib.hid (OwI.empty wq wq.heap.size (Nat.le_refl _))
            clear bq bx W1 W2 W3
            have hp0 : p.length ≤ 1000 := by have := HL.out; have := HD.out; omega
            go_wp2_with (first | (at_builtin; refine wpList_app OW.out X3.out.2 (by rfl) (by rfl) (by rfl) (by rfl) (by simp) (by omega) hz2 ?_; intro v5 w5 ow5 b5 g5; clear g5; have OW5 := Lib.hid ow5; have B5 := Lib.hid b5; have hz5 := b5.size; clear ow5 b5) | (at_builtin; refine wpList_push OW5.out (by rfl) (by rfl) (by rfl) (by rfl) (by rw [List.nil_append]; omega) (Nat.le_trans hz2 hz5) ?_; intro v6 w6 ow6 b6; have OW6 := Lib.hid ow6; have B6 := Lib.hid b6; clear ow6 b6))
            have bT := (BX.out.trans B5.out).trans B6.out
            have RS := Lib.hid (OW6.out.rs (by rw [List.nil_append, List.length_append, List.length_singleton]; omega))
            have Y1 := Lib.hid (X1.out.old bT)
            have Y2 := Lib.hid (X2.out.old bT)
            have B7 := Lib.hid (nextW B1.out bT)
            clear bT OW OW5 OW6 X1 X2 X3 B5 B6 BX
            rw [List.nil_append] at RS
            go_wp2_with fail
            refine (HI.out (p ++ [(k : Int)]) _ _ _ (by have := HD.out; simp; omega) Y1.out Y2.out RS.out).mono ?_
            rintro e w7 ⟨rfl, b7⟩
            rw [HM2.out]
            replace B7 := Lib.hid (nextW B7.out b7)
            clear b7
            go_wp2_with fail
            go_roundw
            case rel => exact ⟨k + 1, by omega, by go_num, by rw [HN.out, Int.natCast_add], B7⟩
            case measure => simp [intOf]; omega
      · obtain rfl : n = k := by omega
        go_wp2_with fail
        go_ret
        exact ⟨rfl, hB.out⟩

theorem l4Many_is {M : Nat} (v1 v2 v3 : Value) (cs ds p : List Int) (n m d h1 h2 h3 : Nat) (w : World) (hn10 : n ≤ 10) (hm5 : m ≤ 5) (hp : p.length + d = m) (hv1 : SlF 2 w h1 v1 cs n) (hv2 : SlF 2 w h2 v2 ds m) (hv3 : Rs w h3 v3 p) (hM : manyI cs ds n d p = M) :
    Calls Try.prog 72 #[v1, v2, v3] w fun e w' => e = .returned (.int .i64 ((M : Nat) : Int)) ∧ Below w.heap.size w w' := hM ▸ l4Many_any v1 v2 cs ds n m h1 h2 hn10 hm5 d p v3 h3 w hp hv1 hv2 hv3

/-- What ServeMany answers. -/
def smI (cs : List Int) (n : Nat) (ds : List Int) (m : Nat) : Int := if bothB cs n ds m then ((manyI cs ds n m [] : Nat) : Int) else -1
theorem both_bd {cs ds : List Int} {n m : Nat} (h : bothB cs n ds m = true) : (n ≤ 10 ∧ spTo cs n) ∧ m ≤ 5 ∧ spTo ds m := by
  simp only [bothB, Bool.and_eq_true, spB_true] at h
  exact ⟨⟨by omega, h.1.2⟩, by omega, h.2.2⟩

theorem specServeMany_b (v1 v2 : Value) (cs ds : List Int) (n m h1 h2 : Nat) (w : World) (hv1 : SlF 2 w h1 v1 cs n) (hv2 : SlF 2 w h2 v2 ds m) :
    Calls Try.prog 36 #[v1, v2] w fun e w' => e = .returned (.int .i64 (smI cs n ds m)) ∧ Below w.heap.size w w' := by
  have HV1 := Lib.hid hv1
  have HV2 := Lib.hid hv2
  clear hv1 hv2
  cases e1 : bothB cs n ds m with
  | false =>
    have HR : Hid (smI cs n ds m = -1) := Lib.hid (by simp [smI, e1])
    go_enter Try.func36, Try.ntmps36
    go_wp2_with fail
    refine (l4Both_is _ _ cs ds n m _ _ _ HV1.out HV2.out e1).mono ?_
    rintro e _ ⟨rfl, rfl⟩
    go_wp2_with fail
    go_ret
    exact ⟨by rw [HR.out]; rfl, Below.refl _ _⟩
  | true =>
    have HM := Lib.hid (both_bd e1)
    obtain ⟨M, hM⟩ : ∃ M, manyI cs ds n m [] = M := ⟨_, rfl⟩
    have HR : Hid (smI cs n ds m = (M : Int)) := Lib.hid (by simp [smI, e1, hM])
    have HMM := Lib.hid hM
    have bx := (Below.refl w.heap.size w).alloc (Nat.le_refl _) (.cells #[] 3)
    have BX := Lib.hid bx
    have OW := Lib.hid (OwI.empty w w.heap.size (Nat.le_refl _))
    clear bx hM
    go_enter Try.func36, Try.ntmps36
    go_wp2_with fail
    refine (l4Both_is _ _ cs ds n m _ _ _ HV1.out HV2.out e1).mono ?_
    rintro e _ ⟨rfl, rfl⟩
    clear e1
    go_wp2_with fail
    refine (l4Many_is _ _ _ cs ds [] n m m _ _ _ _ HM.out.1.1 HM.out.2.1 (by simp) (HV1.out.old BX.out) (HV2.out.old BX.out) (OW.out.rs (by simp)) HMM.out).mono ?_
    rintro e w1 ⟨rfl, b1⟩
    have B1 := Lib.hid (nextW BX.out b1)
    clear b1
    go_wp2_with fail
    go_ret
    exact ⟨by rw [HR.out]; rfl, B1.out⟩

end Go.Proofs.Ythbkimojbbkeiaa
