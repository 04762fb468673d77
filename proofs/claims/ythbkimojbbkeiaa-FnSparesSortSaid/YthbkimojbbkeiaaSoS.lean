/- Contract: SparesSort of the reference. -/
import Derived.Test.YthbkimojbbkeiaaSoH
namespace Go.Proofs.Ythbkimojbbkeiaa
open Go.RowKit

/-- How many the reference has appended. -/
def soN (cs : List Int) (n K i : Nat) : Nat := (srtTo (prs cs n) K ++ (prs cs i).filter fun p => key p == (K : Int)).length
theorem soN_zero (cs : List Int) (n : Nat) : soN cs n 0 0 = 0 ∧ soTo cs n 0 0 = [] := by simp [soN, soTo, srtTo, prs, fl]
theorem soN_all (cs : List Int) (n K : Nat) : soN cs n K n = soN cs n (K + 1) 0 := by simp [soN, srtTo, prs]
theorem soN_yes {cs : List Int} {n K i : Nat} (h : kyf cs i = (K : Int)) : soN cs n K (i + 1) = soN cs n K i + 1 := by
  unfold soN
  rw [prs_succ, List.filter_append, List.filter_cons_of_pos (by simpa [kyf] using h)]
  simp
  omega
theorem soN_no {cs : List Int} {n K i : Nat} (h : kyf cs i ≠ (K : Int)) : soN cs n K (i + 1) = soN cs n K i := by
  unfold soN
  rw [prs_succ, List.filter_append, List.filter_cons_of_neg (by simpa [kyf] using h)]
  simp
theorem soN_len {cs : List Int} {n K i : Nat} (hi : i ≤ n) (hc : spTo cs n) (hK : K < 200) : soN cs n K i ≤ n := by
  obtain ⟨c, h1, h2⟩ := soTo_len hi hc hK
  have : (soTo cs n K i).length = soN cs n K i * 2 := fl_len _
  omega
theorem soN_top {cs : List Int} {n : Nat} (hc : spTo cs n) : soN cs n 200 0 = n ∧ soTo cs n 200 0 = fl (srtTo (prs cs n) 200) := by
  refine ⟨?_, soTo_zero cs n 200⟩
  have := (srtTo_perm (prs_ok hc)).length_eq
  rw [prs_len] at this
  unfold soN
  rw [show (prs cs 0).filter (fun p => key p == ((200 : Nat) : Int)) = [] from rfl, List.append_nil]
  exact this

set_option maxRecDepth 100000 in
set_option maxHeartbeats 4000000 in
theorem specSparesSort_b (v : Value) (cs : List Int) (n hi : Nat) (w : World) (hv : SlF 2 w hi v cs n) :
    Calls Try.prog 61 #[v] w fun e w' => ∃ v', e = .returned (.tuple #[v', .bool (spB 10 cs n)]) ∧ Hid (Below w.heap.size w w') ∧ Hid (WrF 2 35 w' w.heap.size w'.heap.size v' (srtL cs n) (srtN cs n)) := by
  have HV := Lib.hid hv
  have BX := Lib.hid ((Below.refl w.heap.size w).alloc (Nat.le_refl _) (.cells #[] 35))
  have OW := Lib.hid (OwP.empty w w.heap.size (Nat.le_refl _))
  have V1 := Lib.hid (hv.old BX.out)
  obtain ⟨a, cap, rfl, hl, hn, hcap, hcap2, hc⟩ := hv
  have HC := Lib.hid hc
  have hz : w.heap.size ≤ (w.alloc (.cells #[] 35)).heap.size := by simp
  clear hl hc
  cases h1 : spB 10 cs n with
  | false =>
    have HR : Hid (srtL cs n = [] ∧ srtN cs n = 0) := Lib.hid (by simp [srtL, srtN, h1])
    go_enter Try.func61, Try.ntmps61
    go_wp2
    go_loop [4, 5] (fun s i => s = .slice (some ⟨w.heap.size, 0, none⟩) 0 0 ∧ i = .int .i64 0) (fun _ _ => 0)
    case atStart => exact ⟨rfl, rfl⟩
    case round =>
      obtain ⟨rfl, rfl⟩ := hrel
      go_wp2_with fail
      refine (specSparesValid_is _ cs n hi _ V1.out h1).mono ?_
      rintro e _ ⟨rfl, rfl⟩
      go_wp2_with fail
      refine (specSparesValid_is _ cs n hi _ V1.out h1).mono ?_
      rintro e _ ⟨rfl, rfl⟩
      go_wp2_with fail
      go_ret2
      exact ⟨_, rfl, BX, by rw [HR.out.1, HR.out.2]; exact Lib.hid (OW.out.wr (by omega))⟩
  | true =>
    have HS := Lib.hid (spB_true.1 h1)
    have hn10 := HS.out.1
    have Z0 := Lib.hid (soN_zero cs n)
    go_enter Try.func61, Try.ntmps61
    go_wp2
    go_loopw [4, 5] (fun s i wr => ∃ kd : Nat, kd ≤ 4 ∧ i = .int .i64 kd ∧ Hid (OwP wr w.heap.size s (soTo cs n (kd * 50) 0) (soN cs n (kd * 50) 0)) ∧ Hid (Below w.heap.size w wr)) (fun _ i _ => 4 - (intOf i).toNat)
    case atStart => exact ⟨0, by omega, rfl, by rw [Nat.zero_mul, Z0.out.1, Z0.out.2]; exact OW, BX⟩
    case round =>
      clear OW BX hz Z0 V1
      obtain ⟨kd, hkd, rfl, hO, hB⟩ := hrel
      by_cases hk4 : kd < 4
      · have hk3 : (kd : Int) ≤ 3 := by omega
        have VR := Lib.hid (HV.out.old hB.out)
        have G1 : Hid (soTo cs n (kd * 50 + (50 - 50)) 0 = soTo cs n (kd * 50) 0 ∧ soN cs n (kd * 50 + (50 - 50)) 0 = soN cs n (kd * 50) 0) := Lib.hid ⟨rfl, rfl⟩
        go_wp2_with fail
        refine (specSparesValid_is _ cs n hi _ VR.out h1).mono ?_
        rintro e _ ⟨rfl, rfl⟩
        clear VR
        go_wp2
        go_loopw [4, 6] (fun s i wr => ∃ m : Nat, m ≤ 50 ∧ i = .int .i64 m ∧ Hid (OwP wr w.heap.size s (soTo cs n (kd * 50 + (50 - m)) 0) (soN cs n (kd * 50 + (50 - m)) 0)) ∧ Hid (Below w.heap.size w wr)) (fun _ i _ => (intOf i).toNat)
        case atStart => exact ⟨50, by omega, rfl, by rw [G1.out.1, G1.out.2]; exact hO, hB⟩
        case round =>
          clear G1 hO hB
          obtain ⟨m, hm, rfl, hO, hB⟩ := hrel
          by_cases hm0 : 0 < m
          · have hm1 : (0 : Int) < (m : Int) := by omega
            obtain ⟨K, hK⟩ : ∃ K, kd * 50 + (50 - m) = K := ⟨_, rfl⟩
            have HKY : Hid (∀ x, x < n → (kyf cs x = (K : Int) ↔ ski cs x = (kd : Int) ∧ smi cs x = (m : Int))) := Lib.hid fun x hx => by rw [← hK]; exact ky_at HS.out.2 hx hm0 hm
            have HK1 : Hid (K + 1 = kd * 50 + (50 - (m - 1))) := Lib.hid (by omega)
            have HK200 : Hid (K < 200) := Lib.hid (by omega)
            rw [hK] at hO
            clear hK
            go_wp2
            go_loopw [4, 7] (fun s i wr => ∃ x : Nat, x ≤ n ∧ i = .int .i64 x ∧ Hid (OwP wr w.heap.size s (soTo cs n K x) (soN cs n K x)) ∧ Hid (Below w.heap.size w wr)) (fun _ i _ => n - (intOf i).toNat)
            case atStart => exact ⟨0, by omega, rfl, hO, hB⟩
            case round =>
              clear hO hB
              obtain ⟨x, hx, rfl, hO, hB⟩ := hrel
              have hlen := soN_len hx HS.out.2 HK200.out
              by_cases hlt : x < n
              · obtain ⟨b, off, rfl, hbh, hc⟩ := HC.out (by omega)
                obtain ⟨c0, c1⟩ := cellsS hc hlt hB.out (World.block_lt_of_cell? w _ (hc (x * 2) (by omega)))
                clear hc
                have HX := Lib.hid (HKY.out x hlt)
                have hz := hB.out.size
                by_cases e1 : ski cs x = (kd : Int)
                · have b1 : (ski cs x == (kd : Int)) = true := by simp [e1]
                  have E1 := Lib.hid e1
                  clear e1
                  by_cases e2 : smi cs x = (m : Int)
                  · have b2 : (smi cs x == (m : Int)) = true := by simp [e2]
                    have HY := Lib.hid (HX.out.2 ⟨E1.out, e2⟩)
                    have HN : Hid (soTo cs n K (x + 1) = soTo cs n K x ++ [smi cs x, ski cs x] ∧ soN cs n K (x + 1) = soN cs n K x + 1) := Lib.hid ⟨soTo_yes HY.out, soN_yes HY.out⟩
                    clear e2 HY HX E1
                    go_wp2_with (at_builtin; refine wpList_pushP hO.out (by rfl) (by rfl) (by rfl) (by rfl) (by omega) hz ?_; intro v' w5 hown5 hb5; have HO5 := Lib.hid hown5; have HB5 := Lib.hid hb5; clear hown5 hb5)
                    go_roundw
                    case rel => exact ⟨x + 1, by omega, by go_num, by rw [HN.out.1, HN.out.2]; exact HO5, Lib.hid (hB.out.trans HB5.out)⟩
                    case measure => simp [intOf]; omega
                  · have b2 : (smi cs x == (m : Int)) = false := by simp [e2]
                    have HY := Lib.hid (fun h => e2 (HX.out.1 h).2)
                    have HN : Hid (soTo cs n K (x + 1) = soTo cs n K x ∧ soN cs n K (x + 1) = soN cs n K x) := Lib.hid ⟨soTo_no HY.out, soN_no HY.out⟩
                    clear e2 HY HX E1
                    go_wp2
                    go_roundw
                    case rel => exact ⟨x + 1, by omega, by go_num, by rw [HN.out.1, HN.out.2]; exact hO, hB⟩
                    case measure => simp [intOf]; omega
                · have b1 : (ski cs x == (kd : Int)) = false := by simp [e1]
                  have HY := Lib.hid (fun h => e1 (HX.out.1 h).1)
                  have HN : Hid (soTo cs n K (x + 1) = soTo cs n K x ∧ soN cs n K (x + 1) = soN cs n K x) := Lib.hid ⟨soTo_no HY.out, soN_no HY.out⟩
                  clear e1 HY HX
                  go_wp2
                  go_roundw
                  case rel => exact ⟨x + 1, by omega, by go_num, by rw [HN.out.1, HN.out.2]; exact hO, hB⟩
                  case measure => simp [intOf]; omega
              · obtain rfl : n = x := by omega
                have HN : Hid (soTo cs n (kd * 50 + (50 - (m - 1))) 0 = soTo cs n K n ∧ soN cs n (kd * 50 + (50 - (m - 1))) 0 = soN cs n K n) := Lib.hid (by rw [← HK1.out]; exact ⟨(soTo_all cs n K).symm, (soN_all cs n K).symm⟩)
                go_wp2
                go_roundw
                case rel => exact ⟨m - 1, by omega, by go_num, by rw [HN.out.1, HN.out.2]; exact hO, hB⟩
                case measure => simp [intOf]; omega
          · obtain rfl : m = 0 := by omega
            have G2 : Hid (soTo cs n ((kd + 1) * 50) 0 = soTo cs n (kd * 50 + (50 - 0)) 0 ∧ soN cs n ((kd + 1) * 50) 0 = soN cs n (kd * 50 + (50 - 0)) 0) := Lib.hid (by rw [show (kd + 1) * 50 = kd * 50 + (50 - 0) by omega]; exact ⟨rfl, rfl⟩)
            go_wp2
            go_roundw
            case rel => exact ⟨kd + 1, by omega, by go_num, by rw [G2.out.1, G2.out.2]; exact hO, hB⟩
            case measure => simp [intOf]; omega
      · obtain rfl : kd = 4 := by omega
        have VR := Lib.hid (HV.out.old hB.out)
        have HT := Lib.hid (soN_top HS.out.2)
        have HR : Hid (srtL cs n = soTo cs n 200 0 ∧ srtN cs n = soN cs n 200 0) := Lib.hid (by rw [srtL, srtN, if_pos h1, if_pos h1, HT.out.1, HT.out.2]; exact ⟨rfl, rfl⟩)
        have hl : soN cs n 200 0 ≤ n := by rw [HT.out.1]; omega
        have HL := Lib.hid hl
        clear hl
        go_wp2_with fail
        refine (specSparesValid_is _ cs n hi _ VR.out h1).mono ?_
        rintro e _ ⟨rfl, rfl⟩
        go_wp2_with fail
        go_ret2
        exact ⟨_, rfl, hB, by rw [HR.out.1, HR.out.2]; exact Lib.hid (OwP.wr (show OwP _ _ _ (soTo cs n 200 0) (soN cs n 200 0) from hO.out) (by have := HL.out; omega))⟩

end Go.Proofs.Ythbkimojbbkeiaa
