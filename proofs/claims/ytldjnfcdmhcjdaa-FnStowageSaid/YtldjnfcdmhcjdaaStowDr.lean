/- Draws of stowages: l5Make, StowageMake, l92Stowage. -/
import Derived.Test.YtldjnfcdmhcjdaaApp
import Derived.Test.YtldjnfcdmhcjdaaDrAt
import Derived.Test.YtldjnfcdmhcjdaaLong2
namespace Go.Proofs.Ytldjnfcdmhcjdaa
open Go.RowKit

set_option maxHeartbeats 1000000 in
theorem l5Make_any (v : Value) (xs : List Int) (hi : Nat) (w : World) (hv : Sl w hi v xs) (h13 : xs.length ≤ 13) :
    Calls Try.prog 75 #[v] w fun e w' => ∃ r o m, e = .returned (.tuple #[r, .int .i64 m]) ∧ Below w.heap.size w w' ∧ OwI w' w.heap.size r o ∧ o.length = xs.length := by
  obtain ⟨a, n, cap, rfl, hl, hn, hcap, hcap2, hc⟩ := hv
  rw [hl] at h13
  have HL := Lib.hid hl
  have HC := Lib.hid hc
  clear hl hc
  have b0 : Below w.heap.size w (w.alloc (.cells #[] 3)) := (Below.refl _ w).alloc (Nat.le_refl _) _
  have B0 := Lib.hid (b0.alloc (by simp) (.cells #[] 3))
  have o0 := OwI.new w w.heap.size 0 #[] (Nat.le_refl _) (by unfold maxLen; omega) rfl
  have O0 := Lib.hid (o0.below ((Below.refl _ (w.alloc (.cells #[] 3))).alloc (Nat.le_refl _) (.cells #[] 3)))
  have t0 := OwI.new (w.alloc (.cells #[] 3)) w.heap.size 0 #[] (by simp) (by unfold maxLen; omega) rfl
  rw [World.size_alloc] at t0
  have T0 := Lib.hid t0
  clear b0 o0 t0
  go_enter Try.func75, Try.ntmps75
  go_wp2
  go_loopw [4, 5, 6] (fun ov tv i wr => ∃ (k : Nat) (o t : List Int), k ≤ n ∧ i = .int .i64 k ∧ OwI wr w.heap.size ov o ∧ o.length = k ∧ OwI wr w.heap.size tv t ∧ t.length ≤ k ∧ Apt ov tv ∧ Below w.heap.size w wr) (fun _ _ i _ => n - (intOf i).toNat)
  case atStart => exact ⟨0, [], [], Nat.zero_le _, rfl, O0.out, rfl, T0.out, Nat.le_refl _, fun g h1 h2 => by simp [Value.ownBlock] at h1 h2; omega, B0.out⟩
  case round =>
    clear O0 T0 B0
    obtain ⟨k, o, t, hk, rfl, hown, hol, htn, htl, hap, hB⟩ := hrel
    by_cases hlt : k < n
    · obtain ⟨b, off, rfl, hbh, hcx⟩ := HC.out (by omega)
      have HCX := Lib.hid (hcx k hlt)
      have hbW : b < w.heap.size := World.block_lt_of_cell? w _ (hcx k hlt)
      have hck := (hB.cell (p := ⟨b, off + k, none⟩) hbW).trans HCX.out
      have hz : w.heap.size ≤ wr.heap.size := hB.size
      clear hcx
      obtain ⟨ta, tc, rfl, htc⟩ := htn.form2
      have HTC := Lib.hid htc
      have HO := Lib.hid hown
      have HT := Lib.hid htn
      have HAP := Lib.hid hap
      have HB := Lib.hid hB
      have hol2 : o.length ≤ 13 := by omega
      have HOL := Lib.hid hol
      clear htc hown htn hap hB hol
      obtain ⟨wo, rfl⟩ : ∃ wo : World, wo = wr := ⟨_, rfl⟩
      go_wp2
      go_loopw [7] (fun tk w2 => ∃ j : Nat, j ≤ t.length ∧ tk = .int .i64 j ∧ Q wo w2) (fun tk _ => t.length - (intOf tk).toNat)
      case atStart => exact ⟨0, Nat.zero_le _, rfl, Q.refl _⟩
      case round =>
        obtain ⟨j, hj, rfl, d, rfl⟩ := hrel
        by_cases hjt : j < t.length
        · obtain ⟨tb, rfl, hgB, hgw, hcp, hcp2, hcs, hfz⟩ := HTC.out (by omega)
          have hct := hcs j hjt
          have hfj := hfz j
          clear hcs hfz
          by_cases hls : gi t j < gi xs k
          · have hd : decide (gi t j < gi xs k) = true := by simp [hls]
            go_wp2
            go_quiet (fail)
            go_wp2
            go_roundw
            case rel => exact ⟨j + 1, by omega, by go_num, by first | exact ⟨_, rfl⟩ | exact Q.more _ _⟩
            case measure => simp [intOf]; omega
          · have hd : decide (gi t j < gi xs k) = false := by simp; omega
            have hne : ((j : Int) == (t.length : Int)) = false := by rw [beq_eq_false_iff_ne]; omega
            go_wp2
            go_quiet (fail)
            go_upto_region 12 with (fail)
            have own2 := (OwI.drewN HO.out (d + nq)).other (p := ⟨tb, j, none⟩) (x := .int .i64 (gi xs k)) (fun e => HAP.out tb e rfl)
            have ten2 := (OwI.drewN HT.out (d + nq)).set j (gi xs k)
            have bel2 : Below w.heap.size w ((wo.drewN (d + nq)).setCell ⟨tb, j, none⟩ (.int .i64 (gi xs k))) := (below_drewN HB.out (d + nq)).setCell (p := ⟨tb, j, none⟩) hgB _
            have hz2 := bel2.size
            have OWN := Lib.hid own2
            have TEN := Lib.hid ten2
            have BEL := Lib.hid bel2
            clear own2 ten2 bel2 hck hct hfj HTC hcp hcp2 HT HO HB
            revert OWN TEN BEL hz2
            generalize (wo.drewN (d + nq)).setCell ⟨tb, j, none⟩ (.int .i64 (gi xs k)) = w2
            intro hz2 OWN TEN BEL
            go_wp2_with (at_builtin; go_loud (refine wpList_push2 Try.underlying22 OWN.out (by rfl) (by rfl) (by rfl) (by rfl) (by omega) hz2 ?_; intro g2 c2 w3 hown1 hg1 hn1))
            go_roundw
            case rel => exact ⟨k + 1, _, _, by omega, by go_num, hown1, by simp [HOL.out], TEN.out.grown hg1 HAP.out.symm, by simp; omega, (HAP.out.symm.push TEN.out hn1).symm, push_below BEL.out hz2 OWN.out hg1⟩
            case measure => simp [intOf]; omega
        · obtain rfl : j = t.length := by omega
          go_wp2
          go_quiet (fail)
          have hzd : w.heap.size ≤ (wo.drewN (d + nq)).heap.size := hz
          go_upto_region 12 with (at_builtin; go_loud (refine wpList_push2 Try.underlying22 (HT.out.drewN (d + nq)) (by rfl) (by rfl) (by rfl) (by rfl) (by omega) hzd ?_; intro g c w3 hown1 hg1 hn1; have hb3 := push_below (below_drewN HB.out (d + nq)) hzd (HT.out.drewN (d + nq)) hg1; have hck3 := (hb3.cell (p := ⟨b, off + k, none⟩) hbW).trans HCX.out; have hat := hown1.at (k := t.length) (by simp); have hc3 := hat.1; have hf3 := hat.2.1; have hge3 := hat.2.2.1; have OW3 := Lib.hid ((HO.out.drewN (d + nq)).grown hg1 HAP.out); have AP3 := Lib.hid (HAP.out.push (HO.out.drewN (d + nq)) hn1); have TW3 := Lib.hid hown1; have HB3 := Lib.hid hb3; clear hat hown1 hg1 hn1 hb3 hck))
          have own2 := OW3.out.other (p := ⟨g, t.length, none⟩) (x := .int .i64 (gi xs k)) (fun e => AP3.out g e rfl)
          have ten2 := TW3.out.set t.length (gi xs k)
          have bel2 : Below w.heap.size w (w3.setCell ⟨g, t.length, none⟩ (.int .i64 (gi xs k))) := HB3.out.setCell (p := ⟨g, t.length, none⟩) hge3 _
          have hz2 := bel2.size
          have OWN := Lib.hid own2
          have TEN := Lib.hid ten2
          have BEL := Lib.hid bel2
          clear own2 ten2 bel2 hck3 hc3 hf3 HTC HT HO HB OW3 TW3 HB3
          revert OWN TEN BEL hz2
          generalize w3.setCell ⟨g, t.length, none⟩ (.int .i64 (gi xs k)) = w2
          intro hz2 OWN TEN BEL
          go_wp2_with (at_builtin; refine wpList_push2 Try.underlying22 OWN.out (by rfl) (by rfl) (by rfl) (by rfl) (by omega) hz2 ?_; intro g2 c2 w4 hown1 hg1 hn1)
          go_roundw
          case rel => exact ⟨k + 1, _, _, by omega, by go_num, hown1, by simp [HOL.out], TEN.out.grown hg1 AP3.out.symm, by simp; omega, (AP3.out.symm.push TEN.out hn1).symm, push_below BEL.out hz2 OWN.out hg1⟩
          case measure => simp [intOf]; omega
    · obtain rfl : n = k := by omega
      obtain ⟨ta, tc, rfl, htc⟩ := htn.form2
      clear htc
      go_wp2
      go_ret2
      exact ⟨_, o, _, rfl, hB, hown, by rw [hol, HL.out]⟩

theorem stowMake_any (v : Value) (xs : List Int) (hi : Nat) (w : World) (hv : Sl w hi v xs) (h13 : xs.length ≤ 13) :
    Calls Try.prog 73 #[v] w fun e w' => ∃ r o ok, e = .returned (.tuple #[r, .bool ok]) ∧ Below w.heap.size w w' ∧ OwI w' w.heap.size r o ∧ o.length ≤ 13 ∧ (ok = true → o.length = xs.length) := by
  cases h1 : ordB xs with
  | false =>
    have n0 := OwI.new w w.heap.size 0 #[] (Nat.le_refl _) (by unfold maxLen; omega) rfl
    go_enter Try.func73, Try.ntmps73
    go_wp2_with fail
    refine (specOrdersValid_is _ xs hi _ hv h1).mono ?_
    rintro e _ ⟨rfl, m, rfl⟩
    go_wp2
    go_ret2
    exact ⟨_, [], false, rfl, below_drewN ((Below.refl _ w).alloc (Nat.le_refl _) _) _, n0, by simp, fun h => by cases h⟩
  | true =>
    go_enter Try.func73, Try.ntmps73
    go_wp2_with fail
    refine (specOrdersValid_is _ xs hi _ hv h1).mono ?_
    rintro e _ ⟨rfl, m, rfl⟩
    go_wp2_with fail
    refine (l5Make_any _ xs hi _ (hv.drewN _) h13).mono ?_
    rintro e w1 ⟨r, o, k, rfl, b1, o1, l1⟩
    have hz : w.heap.size ≤ w1.heap.size := b1.size
    have b1' : Below w.heap.size w w1 := (below_drewN (Below.refl _ w) m).trans b1
    have n1 := OwI.new w1 w.heap.size 0 #[] hz (by unfold maxLen; omega) rfl
    have O1 := Lib.hid (show OwI w1 w.heap.size r o from o1)
    have L1 := Lib.hid l1
    have B1 := Lib.hid b1'
    have N1 := Lib.hid n1
    clear b1 o1 l1 b1' n1
    go_wp2
    · go_ret2
      exact ⟨_, [], false, rfl, B1.out.alloc hz _, N1.out, by simp, fun h => by cases h⟩
    · go_ret2
      exact ⟨_, o, true, rfl, B1.out, O1.out, by rw [L1.out]; exact h13, fun _ => L1.out⟩

end Go.Proofs.Ytldjnfcdmhcjdaa
