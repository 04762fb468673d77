/- Contracts: l4Least and ServeCan of the reference. -/
import Derived.Test.YthbkimojbbkeiaaSvMany
namespace Go.Proofs.Ythbkimojbbkeiaa
open Go.RowKit

section
variable {cs ds p : List Int} {f : Nat → Int} {k : Nat}
theorem le_no (h : okAt cs ds p k = false) : leTo cs ds p f (k + 1) = leTo cs ds p f k := by simp [leTo, h]
theorem le_neg (h : f k < 0) : leTo cs ds p f (k + 1) = leTo cs ds p f k := by
  have : decide (0 ≤ f k) = false := decide_eq_false (by omega)
  simp [leTo, this]
theorem le_first (h : okAt cs ds p k = true) (h1 : 0 ≤ f k) (h2 : leTo cs ds p f k < 0) : leTo cs ds p f (k + 1) = wsAt cs ds k p.length + f k := by
  rw [leTo, h, decide_eq_true h1, decide_eq_true h2]; rfl
theorem le_less (h : okAt cs ds p k = true) (h1 : 0 ≤ f k) (h2 : wsAt cs ds k p.length + f k < leTo cs ds p f k) : leTo cs ds p f (k + 1) = wsAt cs ds k p.length + f k := by
  rw [leTo, h, decide_eq_true h1, decide_eq_true h2]; simp
theorem le_more (h2 : ¬ leTo cs ds p f k < 0) (h3 : ¬ wsAt cs ds k p.length + f k < leTo cs ds p f k) : leTo cs ds p f (k + 1) = leTo cs ds p f k := by
  rw [leTo, decide_eq_false h2, decide_eq_false h3]; simp
end

set_option maxRecDepth 100000 in
set_option maxHeartbeats 4000000 in
theorem l4Least_any (v1 v2 : Value) (cs ds : List Int) (n m h1 h2 : Nat) (hn10 : n ≤ 10) (hm5 : m ≤ 5) (hcs : spTo cs n) (hds : spTo ds m) : ∀ (d : Nat) (p : List Int) (v3 : Value) (h3 : Nat) (w : World), p.length + d = m → SlF 2 w h1 v1 cs n → SlF 2 w h2 v2 ds m → Rs w h3 v3 p →
    Calls Try.prog 78 #[v1, v2, v3] w fun e w' => e = .returned (.int .i64 (leastI cs ds n d p)) ∧ Below w.heap.size w w' := by
  intro d
  induction d with
  | zero =>
    intro p v3 h3 w hd hv1 hv2 hv3
    obtain ⟨⟨a3, l, cap3, rfl, hl, -⟩, -⟩ := hv3
    obtain ⟨a2, cap2, rfl, -⟩ := hv2
    obtain rfl : l = m := by omega
    clear hl hd hv1 hcs hds
    go_enter Try.func78, Try.ntmps78
    go_wp2_with fail
    go_ret
    exact ⟨rfl, Below.refl _ _⟩
  | succ d ih =>
    intro p v3 h3 w hd hv1 hv2 hv3
    have HI := Lib.hid ih
    have V1 := Lib.hid hv1
    have V2 := Lib.hid hv2
    have V3 := Lib.hid hv3
    have HD := Lib.hid hd
    have HCD := Lib.hid (And.intro hcs hds)
    obtain ⟨⟨a3, l, cap3, rfl, hl, -⟩, -⟩ := hv3
    obtain ⟨a2, cap2, rfl, -⟩ := hv2
    obtain ⟨a1, cap1, rfl, -⟩ := hv1
    have hlm : l < m := by omega
    have HL := Lib.hid hl
    have hne : ((l : Int) == (m : Int)) = false := by simp; omega
    clear hl hd ih hcs hds
    go_enter Try.func78, Try.ntmps78
    go_wp2_with fail
    clear hne
    go_loopw [8, 9] (fun s i wr => ∃ k : Nat, k ≤ n ∧ i = .int .i64 k ∧ s = .int .i64 (leTo cs ds p (fun k => leastI cs ds n d (p ++ [(k : Int)])) k) ∧ Hid (Below w.heap.size w wr)) (fun _ i _ => n - (intOf i).toNat)
    case atStart => exact ⟨0, Nat.zero_le _, rfl, rfl, Below.refl _ _⟩
    case round =>
      obtain ⟨k, hk, rfl, rfl, hB⟩ := hrel
      by_cases hlt : k < n
      · have HO : Hid (okAt cs ds p k = (!memB p (k : Int) && srB (smi cs k) (ski cs k) (smi ds l) (ski ds l))) := Lib.hid (by rw [okAt, HL.out])
        have hdm : p.length + (d + 1) = m := HD.out
        have hF := fun k : Nat => leastI_bd HCD.out.1 HCD.out.2 d (p ++ [(k : Int)]) (by simp; omega)
        have hbd := leTo_bd (p := p) (f := fun k => leastI cs ds n d (p ++ [(k : Int)])) (B := 50 * d) (spTo_mono HCD.out.1 hk) (ds := ds) (by have := (HCD.out.2 p.length (by omega)).1; omega) (fun i _ => hF i) (by omega)
        have hbd2 := hF k
        have s1 := (HCD.out.1 k hlt).1
        have s2 := (HCD.out.2 l hlm).1
        have HW : Hid (wsAt cs ds k p.length = smi cs k - smi ds l) := Lib.hid (by rw [wsAt, HL.out])
        have HNo := Lib.hid fun h => le_no (cs := cs) (ds := ds) (p := p) (f := fun k => leastI cs ds n d (p ++ [(k : Int)])) (k := k) h
        have HNeg := Lib.hid fun h => le_neg (cs := cs) (ds := ds) (p := p) (f := fun k => leastI cs ds n d (p ++ [(k : Int)])) (k := k) h
        have HFi := Lib.hid fun h => le_first (cs := cs) (ds := ds) (p := p) (f := fun k => leastI cs ds n d (p ++ [(k : Int)])) (k := k) h
        have HLe := Lib.hid fun h => le_less (cs := cs) (ds := ds) (p := p) (f := fun k => leastI cs ds n d (p ++ [(k : Int)])) (k := k) h
        have HMo := Lib.hid fun h => le_more (cs := cs) (ds := ds) (p := p) (f := fun k => leastI cs ds n d (p ++ [(k : Int)])) (k := k) h
        clear hF
        try simp only at HNeg HFi HLe HMo
        rw [HW.out] at HFi HLe HMo
        revert HNo HNeg HFi HLe HMo hbd hbd2
        generalize leTo cs ds p (fun k => leastI cs ds n d (p ++ [(k : Int)])) k = L
        obtain ⟨F, hFF⟩ : ∃ F, leastI cs ds n d (p ++ [(k : Int)]) = F := ⟨_, rfl⟩
        have HFF := Lib.hid hFF
        rw [hFF]
        clear hFF
        intro hbd hbd2 HNo HNeg HFi HLe HMo
        have hL1 : -1 ≤ L := hbd.1
        have hL2 : L ≤ 300 := by omega
        have hF1 : -1 ≤ F := hbd2.1
        have hF2 : F ≤ 250 := by omega
        clear hbd hbd2 hdm
        have W1 := Lib.hid (V1.out.old hB.out)
        have W2 := Lib.hid (V2.out.old hB.out)
        have W3 := Lib.hid (V3.out.old hB.out)
        obtain ⟨_, _, e2, _, _, _, _, hc1⟩ := W1.out
        cases e2
        obtain ⟨b1, off1, rfl, hb1, hc1⟩ := hc1 (by omega)
        obtain ⟨d0, d1⟩ := cellsS hc1 hlt (Below.refl _ _) (World.block_lt_of_cell? wr _ (hc1 (k * 2) (by omega)))
        obtain ⟨_, _, e2, _, _, _, _, hc2⟩ := W2.out
        cases e2
        obtain ⟨b2, off2, rfl, hb2, hc2⟩ := hc2 (by omega)
        obtain ⟨f0, f1⟩ := cellsS hc2 hlm (Below.refl _ _) (World.block_lt_of_cell? wr _ (hc2 (l * 2) (by omega)))
        clear hc1 hc2
        have D0 := Lib.hid d0
        have F0 := Lib.hid f0
        have p0 := cell_regrown d0
        have p1 := cell_regrown d1
        have q0 := cell_regrown f0
        have q1 := cell_regrown f1
        have hlm2 : (l : Int) < (m : Int) := by omega
        have hkn2 : (k : Int) < (n : Int) := by omega
        cases hm : memB p (k : Int) with
        | true =>
          have HN := Lib.hid (HNo.out (by rw [HO.out, hm]; rfl))
          clear HNo HNeg HFi HLe HMo HO
          go_wp2_with fail
          refine wp_region_quiet_below (by kernel_rfl) (by kernel_rfl) ?_
          repeat (any_goals (first | go_big_quiet_step (((go_at_call 69; exact Calls.regrown_of (l4Has_ib _ p _ _ _ (W3.out.1.old (below_regrown _ _ _)) hm)))) | quiet_step (((go_at_call 69; exact Calls.regrown_of (l4Has_ib _ p _ _ _ (W3.out.1.old (below_regrown _ _ _)) hm))))))
          refine wpQuiet_nil ?_
          intro _ hw'
          obtain ⟨⟨dq, osq⟩, hw''⟩ := hw'
          subst hw''
          have bq := below_regrown (wr) dq osq
          revert bq
          generalize Go.Sort.grow (redrawn (wr) dq) osq = wq
          intro bq
          clear d0 d1 f0 f1 p0 p1 q0 q1
          go_wp2_with fail
          go_roundw
          case rel => exact ⟨k + 1, by omega, by go_num, by rw [HN.out], Lib.hid (nextW hB.out bq)⟩
          case measure => simp [intOf]; omega
        | false =>
          cases hs : srB (smi cs k) (ski cs k) (smi ds l) (ski ds l) with
          | false =>
            have HN := Lib.hid (HNo.out (by rw [HO.out, hm, hs]; rfl))
            clear HNo HNeg HFi HLe HMo HO
            go_wp2_with fail
            refine wp_region_quiet_below (by kernel_rfl) (by kernel_rfl) ?_
            repeat (any_goals (first | go_big_quiet_step ((first | (go_at_call 69; exact Calls.regrown_of (l4Has_ib _ p _ _ _ (W3.out.1.old (below_regrown _ _ _)) hm)) | (go_at_call 66; exact Calls.regrown_of (specServes_is _ _ _ _ _ hs)))) | quiet_step ((first | (go_at_call 69; exact Calls.regrown_of (l4Has_ib _ p _ _ _ (W3.out.1.old (below_regrown _ _ _)) hm)) | (go_at_call 66; exact Calls.regrown_of (specServes_is _ _ _ _ _ hs))))))
            refine wpQuiet_nil ?_
            intro _ hw'
            obtain ⟨⟨dq, osq⟩, hw''⟩ := hw'
            subst hw''
            have bq := below_regrown (wr) dq osq
            revert bq
            generalize Go.Sort.grow (redrawn (wr) dq) osq = wq
            intro bq
            clear d0 d1 f0 f1 p0 p1 q0 q1
            go_wp2_with fail
            go_roundw
            case rel => exact ⟨k + 1, by omega, by go_num, by rw [HN.out], Lib.hid (nextW hB.out bq)⟩
            case measure => simp [intOf]; omega
          | true =>
            have hok : okAt cs ds p k = true := by rw [HO.out, hm, hs]; rfl
            replace HFi := Lib.hid (HFi.out hok)
            replace HLe := Lib.hid (HLe.out hok)
            clear HNo HO hok
            go_wp2_with fail
            refine wp_region_quiet_below (by kernel_rfl) (by kernel_rfl) ?_
            repeat (any_goals (first | go_big_quiet_step ((first | (go_at_call 69; exact Calls.regrown_of (l4Has_ib _ p _ _ _ (W3.out.1.old (below_regrown _ _ _)) hm)) | (go_at_call 66; exact Calls.regrown_of (specServes_is _ _ _ _ _ hs)))) | quiet_step ((first | (go_at_call 69; exact Calls.regrown_of (l4Has_ib _ p _ _ _ (W3.out.1.old (below_regrown _ _ _)) hm)) | (go_at_call 66; exact Calls.regrown_of (specServes_is _ _ _ _ _ hs))))))
            refine wpQuiet_nil ?_
            intro _ hw'
            obtain ⟨⟨dq, osq⟩, hw''⟩ := hw'
            subst hw''
            have bq := below_regrown (wr) dq osq
            revert bq
            generalize Go.Sort.grow (redrawn (wr) dq) osq = wq
            intro bq
            clear d0 d1 f0 f1 p0 p1 q0 q1
            have B1 := Lib.hid (nextW hB.out bq)
            have bx := (Below.refl wq.heap.size wq).alloc (Nat.le_refl _) (.cells #[] 3)
            have X1 := Lib.hid (W1.out.old bq)
            have X2 := Lib.hid (W2.out.old bq)
            have X3 := Lib.hid ((W3.out.old bq).old bx)
            have E0 := Lib.hid (cellB D0.out bq)
            have G0 := Lib.hid (cellB F0.out bq)
            have BX := Lib.hid bx
            have hz2 : wq.heap.size ≤ (wq.alloc (.cells #[] 3)).heap.size := by simp
            have OW := Lib.hid (OwI.empty wq wq.heap.size (Nat.le_refl _))
            clear bq bx W1 W2 W3 D0 F0
            have hp0 : p.length ≤ 1000 := by have := HL.out; have := HD.out; omega
            go_wp2_with (first | (at_builtin; refine wpList_app OW.out X3.out.2 (by rfl) (by rfl) (by rfl) (by rfl) (by simp) (by omega) hz2 ?_; intro v5 w5 ow5 b5 g5; clear g5; have OW5 := Lib.hid ow5; have B5 := Lib.hid b5; have hz5 := b5.size; clear ow5 b5) | (at_builtin; refine wpList_push OW5.out (by rfl) (by rfl) (by rfl) (by rfl) (by rw [List.nil_append]; omega) (Nat.le_trans hz2 hz5) ?_; intro v6 w6 ow6 b6; have OW6 := Lib.hid ow6; have B6 := Lib.hid b6; clear ow6 b6))
            have bT := (BX.out.trans B5.out).trans B6.out
            have RS := Lib.hid (OW6.out.rs (by rw [List.nil_append, List.length_append, List.length_singleton]; omega))
            have Y1 := Lib.hid (X1.out.old bT)
            have Y2 := Lib.hid (X2.out.old bT)
            have B7 := Lib.hid (nextW B1.out bT)
            replace E0 := Lib.hid (cellB E0.out bT)
            replace G0 := Lib.hid (cellB G0.out bT)
            clear bT OW OW5 OW6 X1 X2 X3 B5 B6 BX
            rw [List.nil_append] at RS
            go_wp2_with fail
            refine (HI.out (p ++ [(k : Int)]) _ _ _ (by have := HD.out; simp; omega) Y1.out Y2.out RS.out).mono ?_
            rintro e w7 ⟨rfl, b7⟩
            rw [HFF.out]
            replace B7 := Lib.hid (nextW B7.out b7)
            have e0 := cellB E0.out b7
            have g0 := cellB G0.out b7
            clear b7 E0 G0 RS Y1 Y2
            revert e0 g0 s1 s2 HFi HLe HMo
            generalize smi cs k = x
            generalize smi ds l = y
            intro s1 s2 HFi HLe HMo e0 g0
            have w1 : IntKind.i64.wrap (x - y) = x - y := IntWalk.i64_in _ (by omega)
            have w2 : IntKind.i64.wrap (x - y + F) = x - y + F := IntWalk.i64_in _ (by omega)
            go_wp2_with fail
            go_quiet (fail)
            clear w1 w2 e0 g0
            by_cases hF0 : F < 0
            · have HN := Lib.hid (HNeg.out hF0)
              have t1 : decide (0 ≤ F) = false := decide_eq_false (by omega)
              clear HNeg HFi HLe HMo
              go_wp2_with fail
              go_roundw
              case rel => exact ⟨k + 1, by omega, by go_num, by rw [HN.out], Lib.hid (below_drewN B7.out _)⟩
              case measure => simp [intOf]; omega
            · have t1 : decide (0 ≤ F) = true := decide_eq_true (by omega)
              by_cases hL0 : L < 0
              · have HN := Lib.hid (HFi.out (by omega) hL0)
                have t2 : decide (L < 0) = true := decide_eq_true hL0
                clear HNeg HFi HLe HMo
                go_wp2_with fail
                go_roundw
                case rel => exact ⟨k + 1, by omega, by go_num, by rw [HN.out], Lib.hid (below_drewN B7.out _)⟩
                case measure => simp [intOf]; omega
              · have t2 : decide (L < 0) = false := decide_eq_false hL0
                by_cases hlt2 : x - y + F < L
                · have HN := Lib.hid (HLe.out (by omega) hlt2)
                  have t3 : decide (x - y + F < L) = true := decide_eq_true hlt2
                  clear HNeg HFi HLe HMo
                  go_wp2_with fail
                  go_roundw
                  case rel => exact ⟨k + 1, by omega, by go_num, by rw [HN.out], Lib.hid (below_drewN B7.out _)⟩
                  case measure => simp [intOf]; omega
                · have HN := Lib.hid (HMo.out (by omega) (by omega))
                  have t3 : decide (x - y + F < L) = false := decide_eq_false hlt2
                  clear HNeg HFi HLe HMo
                  go_wp2_with fail
                  go_roundw
                  case rel => exact ⟨k + 1, by omega, by go_num, by rw [HN.out], Lib.hid (below_drewN B7.out _)⟩
                  case measure => simp [intOf]; omega
      · obtain rfl : n = k := by omega
        go_wp2_with fail
        go_ret
        exact ⟨rfl, hB.out⟩

theorem l4Least_is {M : Int} (v1 v2 v3 : Value) (cs ds p : List Int) (n m d h1 h2 h3 : Nat) (w : World) (hn10 : n ≤ 10) (hm5 : m ≤ 5) (hcs : spTo cs n) (hds : spTo ds m) (hp : p.length + d = m) (hv1 : SlF 2 w h1 v1 cs n) (hv2 : SlF 2 w h2 v2 ds m) (hv3 : Rs w h3 v3 p) (hM : leastI cs ds n d p = M) :
    Calls Try.prog 78 #[v1, v2, v3] w fun e w' => e = .returned (.int .i64 M) ∧ Below w.heap.size w w' := hM ▸ l4Least_any v1 v2 cs ds n m h1 h2 hn10 hm5 hcs hds d p v3 h3 w hp hv1 hv2 hv3

/-- What ServeCan answers. -/
def scB (cs : List Int) (n : Nat) (ds : List Int) (m : Nat) : Bool := bothB cs n ds m && decide (0 ≤ leastI cs ds n m [])
theorem scB_many {cs ds : List Int} {n m : Nat} : scB cs n ds m = decide (0 < smI cs n ds m) := by
  rw [Bool.eq_iff_iff, decide_eq_true_eq, scB, Bool.and_eq_true, decide_eq_true_eq, smI]
  constructor
  · rintro ⟨h1, h2⟩
    rw [if_pos h1]
    have := many_some.2 (least_some.1 h2)
    omega
  · intro h
    split at h
    · rename_i h1
      exact ⟨h1, least_some.2 (many_some.1 (by omega))⟩
    · omega

theorem specServeCan_b (v1 v2 : Value) (cs ds : List Int) (n m h1 h2 : Nat) (w : World) (hv1 : SlF 2 w h1 v1 cs n) (hv2 : SlF 2 w h2 v2 ds m) :
    Calls Try.prog 42 #[v1, v2] w fun e w' => e = .returned (.bool (scB cs n ds m)) ∧ Below w.heap.size w w' := by
  have HV1 := Lib.hid hv1
  have HV2 := Lib.hid hv2
  clear hv1 hv2
  cases e1 : bothB cs n ds m with
  | false =>
    have HR : Hid (scB cs n ds m = false) := Lib.hid (by simp [scB, e1])
    go_enter Try.func42, Try.ntmps42
    go_wp2_with fail
    refine (l4Both_is _ _ cs ds n m _ _ _ HV1.out HV2.out e1).mono ?_
    rintro e _ ⟨rfl, rfl⟩
    go_wp2_with fail
    go_ret
    exact ⟨by rw [HR.out]; rfl, Below.refl _ _⟩
  | true =>
    have HM := Lib.hid (both_bd e1)
    obtain ⟨M, hM⟩ : ∃ M, leastI cs ds n m [] = M := ⟨_, rfl⟩
    have HR : Hid (scB cs n ds m = decide (0 ≤ M)) := Lib.hid (by simp [scB, e1, hM])
    have HMM := Lib.hid hM
    have bx := (Below.refl w.heap.size w).alloc (Nat.le_refl _) (.cells #[] 3)
    have BX := Lib.hid bx
    have OW := Lib.hid (OwI.empty w w.heap.size (Nat.le_refl _))
    clear bx hM
    go_enter Try.func42, Try.ntmps42
    go_wp2_with fail
    refine (l4Both_is _ _ cs ds n m _ _ _ HV1.out HV2.out e1).mono ?_
    rintro e _ ⟨rfl, rfl⟩
    clear e1
    go_wp2_with fail
    refine (l4Least_is _ _ _ cs ds [] n m m _ _ _ _ HM.out.1.1 HM.out.2.1 HM.out.1.2 HM.out.2.2 (by simp) (HV1.out.old BX.out) (HV2.out.old BX.out) (OW.out.rs (by simp)) HMM.out).mono ?_
    rintro e w1 ⟨rfl, b1⟩
    have B1 := Lib.hid (nextW BX.out b1)
    clear b1
    go_wp2_with fail
    go_ret
    exact ⟨by rw [HR.out]; rfl, B1.out⟩
theorem specServeCan_is {r : Bool} (v1 v2 : Value) (cs ds : List Int) (n m h1 h2 : Nat) (w : World) (hv1 : SlF 2 w h1 v1 cs n) (hv2 : SlF 2 w h2 v2 ds m) (h : scB cs n ds m = r) :
    Calls Try.prog 42 #[v1, v2] w fun e w' => e = .returned (.bool r) ∧ Below w.heap.size w w' := h ▸ specServeCan_b v1 v2 cs ds n m h1 h2 w hv1 hv2

end Go.Proofs.Ythbkimojbbkeiaa
