/- Contract: SparesTake of the reference. -/
import Derived.Test.YthbkimojbbkeiaaApS
import Derived.Test.YthbkimojbbkeiaaTkDef
import Derived.Test.YthbkimojbbkeiaaSpDr2
import Derived.Deep.CutRange
import Derived.Deep.RegionLaw
namespace Go.Proofs.Ythbkimojbbkeiaa
open Go.RowKit


set_option maxRecDepth 100000 in
set_option maxHeartbeats 2000000 in
theorem specSparesTake_b (v : Value) (k miles : Int) (cs : List Int) (n hi : Nat) (w : World) (hv : SlF 2 w hi v cs n) :
    Calls Try.prog 38 #[v, .int .i64 k, .int .i64 miles] w fun e w' => ∃ v', e = .returned (.tuple #[v', .bool (tkB cs n k miles)]) ∧ Hid (Below w.heap.size w w') ∧ Hid (OwP w' w.heap.size v' (tkL cs n k miles) (tkN cs n k miles)) := by
  have V := Lib.hid hv
  have BX := Lib.hid ((Below.refl w.heap.size w).alloc (Nat.le_refl _) (.cells #[] 35))
  have OW := Lib.hid (OwP.empty w w.heap.size (Nat.le_refl _))
  obtain ⟨a, cap, rfl, hl, hn, hcap, hcap2, hc⟩ := hv
  have HL := Lib.hid hl
  have HC0 := Lib.hid hc
  clear hl hc
  have hwn : IntKind.i64.wrap ((n : Int) - 1) = (n : Int) - 1 := IntWalk.i64_in _ (by omega)
  cases e1 : spB 10 cs n with
  | false =>
    have HR := Lib.hid (tk_no (cs := cs) (n := n) (k := k) (miles := miles) (by simp [tkB, e1]))
    go_enter Try.func38, Try.ntmps38
    go_wp2_with fail
    refine (specSparesValid_is _ cs n _ _ V.out e1).mono ?_
    rintro e _ ⟨rfl, rfl⟩
    go_wp2_with fail
    go_ret2
    exact ⟨_, by rw [HR.out.1]; rfl, BX, by rw [HR.out.2.1, HR.out.2.2]; exact OW.out⟩
  | true =>
    cases e2 : inB k 0 ((n : Int) - 1) with
    | false =>
      have HR := Lib.hid (tk_no (cs := cs) (n := n) (k := k) (miles := miles) (by simp [tkB, e2]))
      go_enter Try.func38, Try.ntmps38
      go_wp2_with fail
      refine (specSparesValid_is _ cs n _ _ V.out e1).mono ?_
      rintro e _ ⟨rfl, rfl⟩
      go_wp2_with fail
      refine (l6In_is _ _ _ _ e2).mono ?_
      rintro e _ ⟨rfl, rfl⟩
      go_wp2_with fail
      go_ret2
      exact ⟨_, by rw [HR.out.1]; rfl, BX, by rw [HR.out.2.1, HR.out.2.2]; exact OW.out⟩
    | true =>
      have hb := inB_true.1 e2
      obtain ⟨K, rfl⟩ := Int.eq_ofNat_of_zero_le hb.1
      have hKn : K < n := by omega
      have hKn2 : (K : Int) < (n : Int) := by omega
      have hsp := (spB_true.1 e1).2 K hKn
      have hs1 := hsp.1.1
      have hs2 := hsp.1.2
      obtain ⟨b, off, rfl, hbh, hc⟩ := HC0.out (by omega)
      have HC := Lib.hid hc
      have HCW := HC
      have hbw := World.block_lt_of_cell? w _ (hc (K * 2) (by omega))
      obtain ⟨d0, d1⟩ := cellsS hc hKn (Below.refl w.heap.size w) hbw
      clear hc hsp hb HC0
      cases e3 : inB miles 1 (smi cs K) with
      | false =>
        have HR := Lib.hid (tk_no (cs := cs) (n := n) (k := (K : Int)) (miles := miles) (by simp [tkB, e3]))
        go_enter Try.func38, Try.ntmps38
        go_wp2_with fail
        refine (specSparesValid_is _ cs n _ _ V.out e1).mono ?_
        rintro e _ ⟨rfl, rfl⟩
        go_wp2_with fail
        refine (l6In_is _ _ _ _ e2).mono ?_
        rintro e _ ⟨rfl, rfl⟩
        go_wp2_with fail
        refine (l6In_is _ _ _ _ e3).mono ?_
        rintro e _ ⟨rfl, rfl⟩
        go_wp2_with fail
        go_ret2
        exact ⟨_, by rw [HR.out.1]; rfl, BX, by rw [HR.out.2.1, HR.out.2.2]; exact OW.out⟩
      | true =>
        have hm := inB_true.1 e3
        have HT : Hid (tkB cs n (K : Int) miles = true) := Lib.hid (by simp [tkB, e1, e2, e3])
        have SR1 := Lib.hid (src_takeP (cap := cap) HL.out (Nat.le_of_lt hKn) HC.out)
        have hKc : K ≤ cap := by omega
        have hKc2 : (K : Int) ≤ (cap : Int) := by omega
        have hlk : K ≤ 1048576 := by omega
        have hz2 : w.heap.size ≤ (w.alloc (.cells #[] 35)).heap.size := by simp
        go_enter Try.func38, Try.ntmps38
        go_wp2_with fail
        refine (specSparesValid_is _ cs n _ _ V.out e1).mono ?_
        rintro e _ ⟨rfl, rfl⟩
        go_wp2_with fail
        refine (l6In_is _ _ _ _ e2).mono ?_
        rintro e _ ⟨rfl, rfl⟩
        go_wp2_with fail
        refine (l6In_is _ _ _ _ e3).mono ?_
        rintro e _ ⟨rfl, rfl⟩
        go_upto_region 4 with (at_builtin; refine wpList_appP OW.out (SR1.out.old (BX.out)) (by rfl) (by rfl) (by rfl) (by rfl) (by omega) hlk hz2 ?_; intro v5 w5 ow5 b5; have OW5 := Lib.hid ow5; have B5 := Lib.hid b5; clear ow5 b5)
        have BY := Lib.hid (BX.out.trans B5.out)
        replace d0 := cellB d0 BY.out
        replace d1 := cellB d1 BY.out
        have HC := Lib.hid fun j hj => cellB (HC.out j hj) BY.out
        have hz5 := BY.out.size
        by_cases hlt : miles < smi cs K
        · have HR : Hid (tkB cs n (K : Int) miles = true ∧ tkL cs n (K : Int) miles = [] ++ cs.take (K * 2) ++ [smi cs K - miles, ski cs K] ++ cs.drop ((K + 1) * 2) ∧ tkN cs n (K : Int) miles = 0 + K + 1 + (n - (K + 1))) := Lib.hid ⟨HT.out, by simp [tkL, HT.out, hlt], by simp [tkN, HT.out, hlt]⟩
          have t1 : decide (miles < smi cs K) = true := decide_eq_true hlt
          have w1 : IntKind.i64.wrap (smi cs K - miles) = smi cs K - miles := IntWalk.i64_in _ (by omega)
          go_upto_region 5 with (fail)
          go_region_law (first | (refine step_pushP (.tmp 43) (.tmp 57) (show OwP (World.drewN _ 1) _ _ _ _ from OW5.out.below (below_drewN ((Below.refl w5.heap.size w5).alloc (Nat.le_refl _) (.cells #[.int .i64 (smi cs K - miles), .int .i64 (ski cs K)] 35)) 1)) rfl rfl rfl rfl (show Row (World.drewN _ 1) _ _ _ from Row.new w5 #[.int .i64 (smi cs K - miles), .int .i64 (ski cs K)] 35) (by omega) (by simp; omega) ?_; intro v6 wz own6 b6))
          all_goals
            have O := Lib.hid own6
            have b7 := ((below_drewN ((Below.refl w5.heap.size w5).alloc (Nat.le_refl _) (.cells #[.int .i64 (smi cs K - miles), .int .i64 (ski cs K)] 35)) 1).mono hz5).trans b6
            have BZ := Lib.hid (BY.out.trans b7)
            have HC := Lib.hid fun j hj => (BZ.out.cell (p := ⟨b, off + j, none⟩) hbw).trans ((show _ from HCW.out) j hj)
            have hzz := BZ.out.size
            clear own6 b6 b7 d0 d1 w1
            obtain ⟨N, hN⟩ : ∃ N, 0 + K + 1 + (n - (K + 1)) = N := ⟨_, rfl⟩
            have HN := Lib.hid hN
            clear hN
            have hkk : (K : Int) + 1 ≤ (n : Int) := by omega
            have hkc : (K : Int) + 1 ≤ (cap : Int) := by omega
            have hw1 : IntKind.i64.wrap ((K : Int) + 1) = (K : Int) + 1 := IntWalk.i64_in _ (by omega)
            have hw2 : (0 : Int) ≤ (K : Int) + 1 := by omega
            have hw3 : ((K : Int) + 1).toNat = K + 1 := by omega
            have hld : n - (K + 1) ≤ 1048576 := by omega
            by_cases hcy : cap = K + 1
            · have SR2 : Hid (SrcP wz (.slice (some ⟨b, off, none⟩) 0 0) (cs.drop ((K + 1) * 2)) (n - (K + 1))) := Lib.hid (by
                have hz : cs.drop ((K + 1) * 2) = [] := List.drop_eq_nil_of_le (by rw [HL.out]; omega)
                have hz2 : n - (K + 1) = 0 := by omega
                rw [hz, hz2]
                exact .inr ⟨b, off, 0, rfl, rfl, fun j hj => absurd hj (by omega)⟩)
              subst hcy
              go_wp2_with (at_builtin; refine wpList_appP O.out SR2.out (by rfl) (by rfl) (by rfl) (by rfl) (by omega) hld hzz ?_; intro v9 w9 own9 b9; rw [HN.out] at own9; obtain ⟨r9, q9, rfl, -⟩ := own9.form0)
              go_ret2
              exact ⟨_, by rw [HR.out.1]; rfl, Lib.hid (BZ.out.trans b9), Lib.hid (by rw [HR.out.2.1, HR.out.2.2, HN.out]; exact own9)⟩
            · have SR2 : Hid (SrcP wz (.slice (some ⟨b, off + (K + 1) * 2, none⟩) (n - (K + 1)) (cap - (K + 1))) (cs.drop ((K + 1) * 2)) (n - (K + 1))) := Lib.hid (src_dropP HL.out (by omega) HC.out)
              go_wp2_with (at_builtin; refine wpList_appP O.out SR2.out (by rfl) (by rfl) (by rfl) (by rfl) (by omega) hld hzz ?_; intro v9 w9 own9 b9; rw [HN.out] at own9; obtain ⟨r9, q9, rfl, -⟩ := own9.form0)
              go_ret2
              exact ⟨_, by rw [HR.out.1]; rfl, Lib.hid (BZ.out.trans b9), Lib.hid (by rw [HR.out.2.1, HR.out.2.2, HN.out]; exact own9)⟩
        · have HR : Hid (tkB cs n (K : Int) miles = true ∧ tkL cs n (K : Int) miles = [] ++ cs.take (K * 2) ++ cs.drop ((K + 1) * 2) ∧ tkN cs n (K : Int) miles = 0 + K + (n - (K + 1))) := Lib.hid ⟨HT.out, by simp [tkL, HT.out, hlt], by simp [tkN, HT.out, hlt]⟩
          have t1 : decide (miles < smi cs K) = false := decide_eq_false hlt
          obtain ⟨wz, hwz⟩ : ∃ x, x = w5 := ⟨_, rfl⟩
          subst hwz
          have O := OW5
          have BZ := BY
          have hzz := hz5
          obtain ⟨N, hN⟩ : ∃ N, 0 + K + (n - (K + 1)) = N := ⟨_, rfl⟩
          have HN := Lib.hid hN
          clear hN
          have hkk : (K : Int) + 1 ≤ (n : Int) := by omega
          have hkc : (K : Int) + 1 ≤ (cap : Int) := by omega
          have hw1 : IntKind.i64.wrap ((K : Int) + 1) = (K : Int) + 1 := IntWalk.i64_in _ (by omega)
          have hw2 : (0 : Int) ≤ (K : Int) + 1 := by omega
          have hw3 : ((K : Int) + 1).toNat = K + 1 := by omega
          have hld : n - (K + 1) ≤ 1048576 := by omega
          by_cases hcy : cap = K + 1
          · have SR2 : Hid (SrcP wz (.slice (some ⟨b, off, none⟩) 0 0) (cs.drop ((K + 1) * 2)) (n - (K + 1))) := Lib.hid (by
              have hz : cs.drop ((K + 1) * 2) = [] := List.drop_eq_nil_of_le (by rw [HL.out]; omega)
              have hz2 : n - (K + 1) = 0 := by omega
              rw [hz, hz2]
              exact .inr ⟨b, off, 0, rfl, rfl, fun j hj => absurd hj (by omega)⟩)
            subst hcy
            go_wp2_with (at_builtin; refine wpList_appP O.out SR2.out (by rfl) (by rfl) (by rfl) (by rfl) (by omega) hld hzz ?_; intro v9 w9 own9 b9; rw [HN.out] at own9; obtain ⟨r9, q9, rfl, -⟩ := own9.form0)
            go_ret2
            exact ⟨_, by rw [HR.out.1]; rfl, Lib.hid (BZ.out.trans b9), Lib.hid (by rw [HR.out.2.1, HR.out.2.2, HN.out]; exact own9)⟩
          · have SR2 : Hid (SrcP wz (.slice (some ⟨b, off + (K + 1) * 2, none⟩) (n - (K + 1)) (cap - (K + 1))) (cs.drop ((K + 1) * 2)) (n - (K + 1))) := Lib.hid (src_dropP HL.out (by omega) HC.out)
            go_wp2_with (at_builtin; refine wpList_appP O.out SR2.out (by rfl) (by rfl) (by rfl) (by rfl) (by omega) hld hzz ?_; intro v9 w9 own9 b9; rw [HN.out] at own9; obtain ⟨r9, q9, rfl, -⟩ := own9.form0)
            go_ret2
            exact ⟨_, by rw [HR.out.1]; rfl, Lib.hid (BZ.out.trans b9), Lib.hid (by rw [HR.out.2.1, HR.out.2.2, HN.out]; exact own9)⟩

end Go.Proofs.Ythbkimojbbkeiaa
