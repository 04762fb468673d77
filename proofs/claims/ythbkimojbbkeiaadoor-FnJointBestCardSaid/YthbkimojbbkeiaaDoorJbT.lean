/- Contracts: JointBest, JointFewest of the reference. -/
import Derived.Test.YthbkimojbbkeiaaDoorJbS
namespace Go.Proofs.YthbkimojbbkeiaaDoor
open Go.RowKit

theorem pow10 {n : Nat} (hn : n ≤ 10) : 2 ^ n ≤ 1024 := Nat.pow_le_pow_right (by omega) hn
theorem bits_10 {s n : Nat} : (bitsL s n).length ≤ n := bitsL_len
theorem OwI.mono {w : World} {B B' : Nat} {v : Value} {ys : List Int} (h : OwI w B v ys) (hB : B' ≤ B) : OwI w B' v ys := owns_mono h hB
theorem bj_no {cs : List Int} {kind miles : Int} {n s : Nat} (h : gdB cs kind miles n s = false) : bj cs kind miles n (s + 1) = bj cs kind miles n s := by
  rw [bj, h]; rfl
theorem bj_first {cs : List Int} {kind miles : Int} {n s : Nat} (h : gdB cs kind miles n s = true) (h0 : bj cs kind miles n s = 0) : bj cs kind miles n (s + 1) = s := by
  rw [bj, h, h0]; rfl
theorem bj_ah {cs : List Int} {kind miles : Int} {n s b : Nat} (h : gdB cs kind miles n s = true) (h0 : bj cs kind miles n s = b) (hb : b ≠ 0) : bj cs kind miles n (s + 1) = if ahd cs kind (bitsL s n) (bitsL b n) then s else b := by
  rw [bj, h, h0, decide_eq_false hb]; rfl

set_option maxRecDepth 100000 in
set_option maxHeartbeats 4000000 in
theorem specJointBest_b (v : Value) (kind miles : Int) (cs : List Int) (n hi : Nat) (w : World) (hv : SlF 2 w hi v cs n) :
    Calls Tryd.prog 19 #[v, .int .i64 kind, .int .i64 miles] w fun e w' => ∃ v', e = .returned (.tuple #[v', .bool (jbB cs n kind miles)]) ∧ Hid (Below w.heap.size w w') ∧ Hid (OwI w' w.heap.size v' (jbL cs n kind miles)) := by
  have BX := Lib.hid ((Below.refl w.heap.size w).alloc (Nat.le_refl _) (.cells #[] 3))
  have OW := Lib.hid (OwI.empty w w.heap.size (Nat.le_refl _))
  have V := Lib.hid (hv.old BX.out)
  have HV := Lib.hid hv
  obtain ⟨a, cap, rfl, hL, hn, hcap, hcap2, hcl⟩ := hv
  clear hL hcl
  cases e1 : spB 10 cs n with
  | false =>
    have HR : Hid (jbB cs n kind miles = false ∧ jbL cs n kind miles = []) := Lib.hid (by
      have : bestJ cs n kind miles = 0 := by simp [bestJ, jOk, e1]
      exact ⟨by simp [jbB, this], by rw [jbL, this, bitsL_zero]⟩)
    go_enter Tryd.func19, Tryd.ntmps19
    go_wp2_with fail
    refine (specSparesValid_is _ cs n _ _ V.out e1).mono ?_
    rintro e _ ⟨rfl, rfl⟩
    go_wp2_with fail
    go_ret2
    exact ⟨_, by rw [HR.out.1]; rfl, BX, by rw [HR.out.2]; exact OW⟩
  | true =>
    cases e2 : inB miles 1 500 with
    | false =>
      have HR : Hid (jbB cs n kind miles = false ∧ jbL cs n kind miles = []) := Lib.hid (by
        have : bestJ cs n kind miles = 0 := by simp [bestJ, jOk, e2]
        exact ⟨by simp [jbB, this], by rw [jbL, this, bitsL_zero]⟩)
      go_enter Tryd.func19, Tryd.ntmps19
      go_wp2_with fail
      refine (specSparesValid_is _ cs n _ _ V.out e1).mono ?_
      rintro e _ ⟨rfl, rfl⟩
      go_wp2_with fail
      refine (l6In_is _ _ _ _ e2).mono ?_
      rintro e _ ⟨rfl, rfl⟩
      go_wp2_with fail
      go_ret2
      exact ⟨_, by rw [HR.out.1]; rfl, BX, by rw [HR.out.2]; exact OW⟩
    | true =>
      have HJ : Hid (bestJ cs n kind miles = bj cs kind miles n (2 ^ n)) := Lib.hid (by simp [bestJ, jOk, e1, e2])
      have HS := Lib.hid (spB_true.1 e1).2
      have hn10 : n ≤ 10 := by have := (spB_true.1 e1).1; omega
      have hp := pow10 hn10
      have hz0 : w.heap.size ≤ (w.alloc (.cells #[] 3)).heap.size := by simp
      go_enter Tryd.func19, Tryd.ntmps19
      go_wp2_with fail
      refine (specSparesValid_is _ cs n _ _ V.out e1).mono ?_
      rintro e _ ⟨rfl, rfl⟩
      go_wp2_with fail
      refine (l6In_is _ _ _ _ e2).mono ?_
      rintro e _ ⟨rfl, rfl⟩
      clear e1 e2
      go_wp2
      go_loop [9, 10] (fun x i => ∃ k : Nat, k ≤ n ∧ i = .int .i64 k ∧ x = .int .i64 ((2 ^ k : Nat) : Int)) (fun _ i => n - (intOf i).toNat)
      case atStart => exact ⟨0, Nat.zero_le _, rfl, rfl⟩
      case round =>
        obtain ⟨k, hk, rfl, rfl⟩ := hrel
        by_cases hlt : k < n
        · have hpk := pow10 (show k ≤ 10 by omega)
          have HN : Hid (2 ^ (k + 1) = 2 ^ k + 2 ^ k) := Lib.hid (by rw [Nat.pow_succ]; omega)
          clear hp HJ
          revert HN
          revert hpk
          generalize 2 ^ k = x
          intro hpk HN
          go_wp2
          go_round
          case rel => exact ⟨k + 1, by omega, by go_num, by rw [HN.out]; go_num⟩
          case measure => simp [intOf]; omega
        · obtain rfl : n = k := by omega
          have B1 : Hid (bj cs kind miles n 1 = 0) := Lib.hid bj_one
          have Z1 : Hid (bitsL 0 n = []) := Lib.hid (bitsL_zero n)
          have hp1 : 1 ≤ 2 ^ n := Nat.two_pow_pos n
          obtain ⟨P, hP⟩ : ∃ P, 2 ^ n = P := ⟨_, rfl⟩
          have HP := Lib.hid hP
          rw [hP] at hp hp1 HJ ⊢
          clear hP
          go_wp2
          go_loopw [8, 11] (fun o i wr => ∃ s b : Nat, 1 ≤ s ∧ s ≤ P ∧ i = .int .i64 s ∧ Hid (bj cs kind miles n s = b) ∧ Hid (OwI wr w.heap.size o (bitsL b n)) ∧ Hid (Below w.heap.size w wr)) (fun _ i _ => P - (intOf i).toNat)
          case atStart => exact ⟨1, 0, by omega, hp1, rfl, B1, by rw [Z1.out]; exact OW, BX⟩
          case round =>
            clear OW BX V hz0 B1 Z1
            obtain ⟨s, b, hs1, hsP, rfl, hb, hO, hB⟩ := hrel
            obtain ⟨oa, on, oc, rfl, hon⟩ := hO.out.form3
            have hbP : b = 0 ∨ b < s := by rw [← hb.out]; exact bj_lt
            have hnil : Hid (on = 0 ↔ b = 0) := Lib.hid (by
              rw [← hon.out, List.length_eq_zero_iff]
              exact bitsL_nil (by rw [HP.out]; omega))
            have hon10 : on ≤ 10 := by rw [← hon.out]; exact Nat.le_trans bits_10 hn10
            have hz := hB.out.size
            by_cases hlt : s < P
            · have hs10 : s < 1024 := by omega
              obtain ⟨J, hJ⟩ : ∃ J, jtI cs kind (bitsL s n) = J := ⟨_, rfl⟩
              have HJT := Lib.hid hJ
              clear hJ
              go_wp2_with fail
              refine (l4Set_b n s _ hn10 hs10).mono ?_
              rintro e w2 ⟨v12, rfl, o2, b2⟩
              have B2 := Lib.hid (nextW hB.out b2.out)
              have O1 := Lib.hid (hO.out.below b2.out)
              have O2 := Lib.hid (o2.out.mono hz)
              have V2 := Lib.hid (HV.out.old B2.out)
              have hlx : (bitsL s n).length ≤ 1048576 := by have := bits_10 (s := s) (n := n); omega
              have hlb : (bitsL b n).length ≤ 1048576 := by have := bits_10 (s := b) (n := n); omega
              have hx10 : (bitsL s n).length ≤ 10 := Nat.le_trans bits_10 hn10
              have hb10 : (bitsL b n).length ≤ 10 := Nat.le_trans bits_10 hn10
              clear o2 b2 hO hB hz
              go_wp2_with fail
              refine (l4Joint_is _ _ kind cs (bitsL s n) n _ _ _ V2.out (O2.out.wr hlx).sl HS.out ix_bits hx10 HJT.out).mono ?_
              rintro e _ ⟨rfl, rfl⟩
              by_cases hg : miles ≤ J
              · have t1 : decide (miles ≤ J) = true := decide_eq_true hg
                have HG : Hid (gdB cs kind miles n s = true) := Lib.hid (by unfold gdB; rw [HJT.out]; exact t1)
                by_cases hb0 : b = 0
                · subst hb0
                  obtain rfl : on = 0 := hnil.out.2 rfl
                  have HN := Lib.hid (bj_first HG.out hb.out)
                  go_wp2
                  go_roundw
                  case rel => exact ⟨s + 1, s, by omega, by omega, by go_num, HN, O2, B2⟩
                  case measure => simp [intOf]; omega
                · have hon0 : ((on : Int) == 0) = false := by rw [beq_eq_false_iff_ne]; intro h; exact hb0 (hnil.out.1 (by omega))
                  have HN := Lib.hid (bj_ah HG.out hb.out hb0)
                  obtain ⟨A, hA⟩ : ∃ A, ahd cs kind (bitsL s n) (bitsL b n) = A := ⟨_, rfl⟩
                  have HA := Lib.hid hA
                  clear hA
                  go_wp2_with fail
                  refine (l4Ahead_b _ _ _ kind cs (bitsL s n) (bitsL b n) n _ _ _ _ V2.out (O2.out.wr hlx).sl (O1.out.wr hlb).sl HS.out ix_bits ix_bits hx10 hb10).mono ?_
                  rintro e w3 ⟨rfl, b3⟩
                  have B3 := Lib.hid (nextW B2.out b3)
                  have O13 := Lib.hid (O1.out.below b3)
                  have O23 := Lib.hid (O2.out.below b3)
                  rw [HA.out]
                  clear b3 O1 O2 B2
                  cases A with
                  | true =>
                    have HN2 : Hid (bj cs kind miles n (s + 1) = s) := Lib.hid (by rw [HN.out, HA.out]; rfl)
                    go_wp2
                    go_roundw
                    case rel => exact ⟨s + 1, s, by omega, by omega, by go_num, HN2, O23, B3⟩
                    case measure => simp [intOf]; omega
                  | false =>
                    have HN2 : Hid (bj cs kind miles n (s + 1) = b) := Lib.hid (by rw [HN.out, HA.out]; rfl)
                    go_wp2
                    go_roundw
                    case rel => exact ⟨s + 1, b, by omega, by omega, by go_num, HN2, O13, B3⟩
                    case measure => simp [intOf]; omega
              · have t1 : decide (miles ≤ J) = false := decide_eq_false hg
                have HN : Hid (bj cs kind miles n (s + 1) = b) := Lib.hid (by rw [bj_no (by unfold gdB; rw [HJT.out]; exact t1)]; exact hb.out)
                go_wp2
                go_roundw
                case rel => exact ⟨s + 1, b, by omega, by omega, by go_num, HN, O1, B2⟩
                case measure => simp [intOf]; omega
            · obtain rfl : s = P := by omega
              have HR : Hid (jbB cs n kind miles = decide (0 < on) ∧ jbL cs n kind miles = bitsL b n) := Lib.hid (by
                unfold jbB jbL
                rw [HJ.out, hb.out]
                refine ⟨?_, rfl⟩
                rw [decide_eq_decide]
                have := hnil.out
                omega)
              go_wp2
              go_ret2
              exact ⟨_, by rw [HR.out.1]; rfl, hB, by rw [HR.out.2]; exact hO⟩

/-- JointFewest of the reference. -/
theorem jf_of {cs : List Int} {n : Nat} {kind miles : Int} : jfI cs n kind miles = if jbB cs n kind miles then ((jbL cs n kind miles).length : Int) - 1 else -1 := by
  unfold jfI jbB
  by_cases h : bestJ cs n kind miles = 0
  · rw [if_pos h]; simp [h]
  · rw [if_neg h]; simp [h]
theorem specJointFewest_b (v : Value) (kind miles : Int) (cs : List Int) (n hi : Nat) (w : World) (hv : SlF 2 w hi v cs n) :
    Calls Tryd.prog 10 #[v, .int .i64 kind, .int .i64 miles] w fun e w' => e = .returned (.int .i64 (jfI cs n kind miles)) ∧ Below w.heap.size w w' := by
  have HV := Lib.hid hv
  obtain ⟨a, cap, rfl, -⟩ := hv
  obtain ⟨B, hB⟩ : ∃ B, jbB cs n kind miles = B := ⟨_, rfl⟩
  have HR := Lib.hid (jf_of (cs := cs) (n := n) (kind := kind) (miles := miles))
  go_enter Tryd.func10, Tryd.ntmps10
  go_wp2_with fail
  refine (specJointBest_b _ kind miles cs n _ _ HV.out).mono ?_
  rintro e w1 ⟨v1, rfl, b1, o1⟩
  rw [hB] at HR ⊢
  obtain ⟨a1, n1, c1, rfl, hn1⟩ := o1.out.form3
  have hl : n1 ≤ 1048576 := by rw [← hn1.out]; exact (o1.out.wr (by
    have : (jbL cs n kind miles).length ≤ n := bits_10
    have := HV.out.len.2
    omega)).len
  cases B with
  | false =>
    go_wp2
    go_ret
    exact ⟨by rw [HR.out]; rfl, b1.out⟩
  | true =>
    have HR2 : Hid (jfI cs n kind miles = (n1 : Int) - 1) := Lib.hid (by rw [HR.out, hn1.out]; rfl)
    go_wp2
    go_ret
    exact ⟨by rw [HR2.out]; rfl, b1.out⟩

end Go.Proofs.YthbkimojbbkeiaaDoor
