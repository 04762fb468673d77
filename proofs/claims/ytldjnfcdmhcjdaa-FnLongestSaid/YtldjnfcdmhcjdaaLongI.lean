/- Contract: OrdersLongest of the program. -/
import Derived.Test.YtldjnfcdmhcjdaaLong2
namespace Go.Proofs.Ytldjnfcdmhcjdaa
open Go.RowKit

theorem implOrdersLongest_b (v : Value) (xs : List Int) (hi : Nat) (w : World) (hv : Sl w hi v xs) :
    Calls Try.prog 36 #[v] w fun e w' => ∃ r, e = .returned (.tuple #[r, .bool (ordB xs)]) ∧ Below w.heap.size w w' ∧ Wr w' w.heap.size w'.heap.size r (outLong xs) := by
  have hv0 := hv
  obtain ⟨ad, n, cap, rfl, hl, hn, hcap, hcap2, hc⟩ := hv
  have HV := Lib.hid hv0
  have HL := Lib.hid hl
  clear hv0 hl
  cases h1 : ordB xs with
  | false =>
    go_enter Try.func36, Try.ntmps36
    go_wp2_with fail
    refine (implOrdersValid_is _ xs hi _ HV.out h1).mono ?_
    rintro e _ ⟨rfl, rfl⟩
    go_wp2
    go_ret2
    exact ⟨_, rfl, Below.refl _ _, by rw [outLong, h1]; exact Wr.nil _ _ _⟩
  | true =>
    have ho : outLong xs = (takeL xs n).1 := by simp [outLong, h1, HL.out]
    have HO := Lib.hid ho
    clear ho
    have h10 : n ≤ 10 := by have := (ordB_true.1 h1).1; rw [HL.out] at this; exact this
    have hmx := mxL_le xs n (by rw [HL.out]; exact Nat.le_refl _)
    rw [HL.out] at hmx
    have hmk := fun w => mkInts w n hn
    have hmk2 := fun w => mkCapI w (mxL xs n : Int) (by omega) (by omega)
    go_enter Try.func36, Try.ntmps36
    go_wp2_with fail
    refine (implOrdersValid_is _ xs hi _ HV.out h1).mono ?_
    rintro e _ ⟨rfl, rfl⟩
    go_wp2
    clear hmk
    go_loopw [5] (fun i wr => ∃ (k : Nat) (cu : Array Value), k ≤ n ∧ i = .int .i64 ((k : Int) - 1) ∧ Below w.heap.size w wr ∧ Row wr w.heap.size 3 cu ∧ n ≤ cu.size ∧
        Hid (∀ t, k ≤ t → t < n → cu[t]? = some (.int .i64 (lg xs t : Int)))) (fun i _ => (intOf i + 1).toNat)
    case atStart => exact ⟨n, _, Nat.le_refl _, rfl, (Below.refl _ w).alloc (Nat.le_refl _) _, Row.new _ _ _, by simp, fun t ht h2 => absurd ht (by omega)⟩
    case round =>
      obtain ⟨k, cu, hk, rfl, hB, hR, hsz, hno⟩ := hrel
      by_cases h0 : k = 0
      · subst h0
        have HB := Lib.hid hB
        have HW : Hid (Wr wr w.heap.size (w.heap.size + 1) (.slice (some ⟨w.heap.size, 0, none⟩) n n) (lgs xs)) := Lib.hid ⟨_, n, n, rfl, by rw [lgs_len, HL.out], hn, by omega, by omega, fun _ => ⟨w.heap.size, 0, cu, rfl, Nat.le_refl _, by omega, hR, by omega, fun t ht => by
          rw [lgs_gi (by rw [HL.out]; exact ht)]
          simpa using hno.out t (Nat.zero_le _) ht⟩⟩
        have hcl := fun t (ht : t < n) => (show wr.cell? ⟨w.heap.size, t, none⟩ = some (.int .i64 (lg xs t : Int)) by rw [hR.cell]; exact hno.out t (Nat.zero_le _) ht)
        have hz0 := hR.lt
        clear hR hno hsz hB
        go_wp2
        go_loop [7, 61] (fun c i => ∃ k : Nat, k ≤ n ∧ i = .int .i64 k ∧ c = .int .i64 (mxL xs k : Int)) (fun _ i => n - (intOf i).toNat)
        case atStart => exact ⟨0, Nat.zero_le _, rfl, rfl⟩
        case round =>
          obtain ⟨k, hk, rfl, rfl⟩ := hrel
          by_cases hlt : k < n
          · have hck := hcl k hlt
            clear hcl
            go_wp2
            go_round
            case rel => exact ⟨k + 1, by omega, by go_num, by simp only [mxL]; congr 1; omega⟩
            case measure => simp [intOf]; omega
          · obtain rfl : n = k := by omega
            clear hcl
            go_wp2
            clear hmk2
            go_loopw [7, 10, 73] (fun c ov i w3 => ∃ (k : Nat) (o : List Int) (l : Nat), k ≤ n ∧ i = .int .i64 k ∧ c = .int .i64 (l : Int) ∧ Hid (takeL xs k = (o, l)) ∧ OwI w3 w.heap.size ov o ∧ Below w.heap.size w w3 ∧ Wr w3 w.heap.size (w.heap.size + 1) (.slice (some ⟨w.heap.size, 0, none⟩) n n) (lgs xs) ∧
              w.heap.size + 1 ≤ w3.heap.size ∧ Hid (∀ g, ov.ownBlock = some g → g < w.heap.size ∨ w.heap.size + 1 ≤ g)) (fun _ _ i _ => n - (intOf i).toNat)
            case atStart =>
              refine ⟨0, [], mxL xs n, Nat.zero_le _, rfl, rfl, by rw [← HL.out]; rfl, OwI.new _ _ _ _ (by omega) (by unfold maxLen; omega) (by simp), HB.out.alloc (by omega) _, HW.out.old ((Below.refl _ _).alloc (Nat.le_refl _) _), by simp; omega, fun g hg => ?_⟩
              have : wr.heap.size = g := by simpa [Value.ownBlock] using hg
              omega
            case round =>
              obtain ⟨k, o, l, hk, rfl, rfl, htk, hown, hB, hW, hz, hav⟩ := hrel
              have htl := takeL_le xs k (by rw [HL.out]; exact hk)
              have hti := takeL_in xs k
              rw [htk.out] at htl hti
              simp only at htl hti
              obtain ⟨ao, co, rfl, hco⟩ := hown.wr_of (by omega)
              by_cases hlt : k < n
              · obtain ⟨al', nl', cl', hee, _, _, _, _, hcl⟩ := hW.sl
                cases hee
                obtain ⟨bl, ofl, hee, hbl, hcl⟩ := hcl (by omega)
                cases hee
                simp only [Nat.zero_add] at hcl
                have hck := hcl k hlt
                rw [lgs_gi (by rw [HL.out]; exact hlt)] at hck
                obtain ⟨b, off, rfl, hbh, hc⟩ := hc (by omega)
                have hbw := World.block_lt_of_cell? w _ (hc k hlt)
                simp only at hbw
                have hxk := (hB.cell (p := ⟨b, off + k, none⟩) hbw).trans (hc k hlt)
                have hs1 := hB.size
                have hlp := lg_pos xs k (by rw [HL.out]; exact hlt)
                have hle := lg_le xs k (by rw [HL.out]; exact hlt)
                rw [HL.out] at hle
                have HW := Lib.hid hW
                have HB := Lib.hid hB
                have HOWN := Lib.hid hown
                clear hcl hW hB hown
                by_cases he : lg xs k = l
                · subst he
                  have hb1 : (((lg xs k : Nat) : Int) == (lg xs k : Int)) = true := by simp
                  have hgt : decide ((0 : Int) < ((lg xs k : Nat) : Int)) = true := by simp; omega
                  have hgn : decide (0 < lg xs k) = true := by simp; omega
                  have hgm : 0 < lg xs k := by omega
                  by_cases h0 : o.length = 0
                  · have hb2 : ((o.length : Int) == 0) = true := by simp [h0]
                    have htk2 := takeL_yes htk.out rfl (.inl h0)
                    have HTK := Lib.hid htk2
                    have H0 := Lib.hid h0
                    clear htk2 hti h0
                    go_wp2
                    go_quiet (fail)
                    go_wp2_with (at_builtin; refine wpList_push2 Try.underlying22 (HOWN.out.drewN _) (by rfl) (by rfl) (by rfl) (by rfl) (by omega) hs1 ?_; intro g c w1 hown1 hg1 hn1; replace hg1 := grown_drewN hg1; replace hn1 := new_drewN hn1)
                    go_roundw
                    case rel => exact ⟨k + 1, _, _, by omega, by go_num, by congr 1; omega, HTK.out, hown1, push_below HB.out hs1 HOWN.out hg1, HW.out.grown2 hg1 hav.out, Nat.le_trans hz hg1.size, push_apart hn1 hz hav.out⟩
                    case measure => (simp [intOf]; exact Nat.sub_lt_sub_left hlt (Nat.lt_succ_self k))
                  · have hb2 : ((o.length : Int) == 0) = false := by rw [beq_eq_false_iff_ne]; omega
                    have htj := hti (o.length - 1) (by omega)
                    obtain ⟨b3, off3, rfl, hcn⟩ := hco (by omega)
                    have hcj := hcn (o.length - 1) (by omega)
                    obtain ⟨q, hq⟩ := Int.eq_ofNat_of_zero_le htj.1
                    have hxq := (HB.out.cell (p := ⟨b, off + q, none⟩) hbw).trans (hc q (by omega))
                    rw [hq] at hcj
                    have hw1 : IntKind.i64.wrap ((o.length : Int) - 1) = (o.length : Int) - 1 := IntWalk.i64_in _ (by omega)
                    have hqn : (q : Int) < (n : Int) := by omega
                    have HQ := Lib.hid hq
                    clear hco hcn hti hq
                    by_cases hg : gi xs q < gi xs k
                    · have htk2 := takeL_yes htk.out rfl (.inr (by rw [HQ.out]; exact hg))
                      have HTK := Lib.hid htk2
                      clear htk2
                      go_wp2
                      go_quiet (fail)
                      go_wp2_with (at_builtin; refine wpList_push2 Try.underlying22 (HOWN.out.drewN _) (by rfl) (by rfl) (by rfl) (by rfl) (by omega) hs1 ?_; intro g c w1 hown1 hg1 hn1; replace hg1 := grown_drewN hg1; replace hn1 := new_drewN hn1)
                      go_roundw
                      case rel => exact ⟨k + 1, _, _, by omega, by go_num, by congr 1; omega, HTK.out, hown1, push_below HB.out hs1 HOWN.out hg1, HW.out.grown2 hg1 hav.out, Nat.le_trans hz hg1.size, push_apart hn1 hz hav.out⟩
                      case measure => simp [intOf]; omega
                    · have htk2 := takeL_no htk.out (fun h => by
                        rcases h.2 with h | h
                        · exact h0 h
                        · rw [HQ.out] at h; exact hg h)
                      have HTK := Lib.hid htk2
                      have hg' : decide (gi xs q < gi xs k) = false := by simpa using hg
                      clear htk2
                      go_wp2
                      go_quiet (fail)
                      go_wp2
                      go_roundw
                      case rel => exact ⟨k + 1, _, _, by omega, by go_num, rfl, HTK.out, HOWN.out.drewN _, below_drewN HB.out _, HW.out.drewN _, hz, hav.out⟩
                      case measure => simp [intOf]; omega
                · have hb1 : (((lg xs k : Nat) : Int) == (l : Int)) = false := by simp; omega
                  have htk2 := takeL_no htk.out (fun h => he h.1)
                  have HTK := Lib.hid htk2
                  clear htk2 hti
                  rcases Nat.eq_zero_or_pos l with hl0 | hl0
                  · have hgt : decide ((0 : Int) < (l : Int)) = false := by simp; omega
                    go_wp2
                    go_quiet (fail)
                    go_wp2
                    go_roundw
                    case rel => exact ⟨k + 1, _, _, by omega, by go_num, rfl, HTK.out, HOWN.out.drewN _, below_drewN HB.out _, HW.out.drewN _, hz, hav.out⟩
                    case measure => simp [intOf]; omega
                  · have hgt : decide ((0 : Int) < (l : Int)) = true := by simp; omega
                    have hgn : decide (0 < l) = true := by simp; omega
                    go_wp2
                    go_quiet (fail)
                    go_wp2
                    go_roundw
                    case rel => exact ⟨k + 1, _, _, by omega, by go_num, rfl, HTK.out, HOWN.out.drewN _, below_drewN HB.out _, HW.out.drewN _, hz, hav.out⟩
                    case measure => simp [intOf]; omega
              · obtain rfl : n = k := by omega
                go_wp2
                go_ret2
                exact ⟨_, rfl, hB, by rw [HO.out, htk.out]; exact hown.wr (by omega)⟩
      · obtain ⟨p, rfl⟩ : ∃ p, k = p + 1 := ⟨k - 1, by omega⟩
        obtain ⟨b, off, rfl, hbh, hc⟩ := hc (by omega)
        have hbw := World.block_lt_of_cell? w _ (hc p (by omega))
        simp only at hbw
        have hcp := hc p (by omega)
        have hc' := Lib.hid hc
        have he1 : ((p + 1 : Nat) : Int) - 1 = (p : Int) := by omega
        have hcell : wr.cell? ⟨w.heap.size, p, none⟩ = some (cu[p]'(by omega)) := by rw [hR.cell]; simp
        have hfz := hR.frozen p
        have HR := Lib.hid hR
        clear hR hc
        rw [he1]
        clear he1
        go_wp2
        clear hcell hfz
        go_loopw [6] (fun i wr => ∃ (j : Nat) (cu : Array Value), p + 1 + j ≤ n ∧ i = .int .i64 ((p + 1 + j : Nat) : Int) ∧ Below w.heap.size w wr ∧ Row wr w.heap.size 3 cu ∧ n ≤ cu.size ∧
            cu[p]? = some (.int .i64 (accL xs (lg xs) p j : Int)) ∧ Hid (∀ t, p + 1 ≤ t → t < n → cu[t]? = some (.int .i64 (lg xs t : Int)))) (fun i _ => n - (intOf i).toNat)
        case atStart => exact ⟨0, _, by omega, by go_num, hB.setCell (p := ⟨w.heap.size, p, none⟩) (Nat.le_refl _) _, HR.out.set _ _, by simpa using hsz, by
            rw [Array.getElem?_setIfInBounds_self_of_lt (by omega)]; rfl, fun t ht h2 => by
            rw [Array.getElem?_setIfInBounds_ne (by omega)]
            exact hno.out t ht h2⟩
        case round =>
          clear hno HR hB
          obtain ⟨j, cu, hj, rfl, hB, hR, hsz, hcu, hno⟩ := hrel
          by_cases hlt : p + 1 + j < n
          · have hcp2 := (hB.cell (p := ⟨b, off + p, none⟩) hbw).trans hcp
            have hcq := (hB.cell (p := ⟨b, off + (p + 1 + j), none⟩) hbw).trans (hc'.out _ hlt)
            by_cases hg : gi xs p < gi xs (p + 1 + j)
            · have hcell : wr.cell? ⟨w.heap.size, p, none⟩ = some (.int .i64 (accL xs (lg xs) p j : Int)) := by rw [hR.cell]; exact hcu
              have hcell2 : wr.cell? ⟨w.heap.size, p + 1 + j, none⟩ = some (.int .i64 (lg xs (p + 1 + j) : Int)) := by rw [hR.cell]; exact hno.out _ (by omega) hlt
              have hfz := hR.frozen p
              have hs : accL xs (lg xs) p (j + 1) = max (accL xs (lg xs) p j) (lg xs (p + 1 + j) + 1) := by simp [accL, hg]
              have hle := lg_le xs (p + 1 + j) (by rw [HL.out]; exact hlt)
              rw [HL.out] at hle
              have HS := Lib.hid hs
              have HR := Lib.hid hR
              have HCU := Lib.hid hcu
              have hw1 : IntKind.i64.wrap ((lg xs (p + 1 + j) : Int) + 1) = (lg xs (p + 1 + j) : Int) + 1 := IntWalk.i64_in _ (by omega)
              clear hs hR hcu
              go_wp2
              go_quiet (fail)
              go_wp2
              have hR2 : Row (wr.drewN nq) w.heap.size 3 cu := HR.out
              have hB2 : Below w.heap.size w (wr.drewN nq) := below_drewN hB _
              have c1 : (wr.drewN nq).cell? ⟨w.heap.size, p, none⟩ = some (.int .i64 (accL xs (lg xs) p j : Int)) := hcell
              have c2 : (wr.drewN nq).cell? ⟨w.heap.size, p + 1 + j, none⟩ = some (.int .i64 (lg xs (p + 1 + j) : Int)) := hcell2
              have c3 : (wr.drewN nq).frozen? ⟨w.heap.size, p, none⟩ = false := hfz
              revert hR2 hB2 c1 c2 c3
              generalize wr.drewN nq = w2
              intro hR2 hB2 c1 c2 c3
              have HR2 := Lib.hid hR2
              have HB2 := Lib.hid hB2
              clear hcell hcell2 hfz hcp2 hcq HR hB hR2 hB2
              go_region
              clear c1 c2 c3
              have hv : (if (accL xs (lg xs) p j : Int) < (lg xs (p + 1 + j) : Int) + 1 then (lg xs (p + 1 + j) : Int) + 1 else (accL xs (lg xs) p j : Int)) = (accL xs (lg xs) p (j + 1) : Int) := by
                rw [HS.out]; split <;> omega
              rw [hv]
              clear hv hw1
              go_wp2
              go_roundw
              case rel => exact ⟨j + 1, _, by omega, by go_num, below_drewN (HB2.out.setCell (p := ⟨w.heap.size, p, none⟩) (Nat.le_refl _) _) 1, HR2.out.set _ _, by simpa using hsz, by
                rw [Array.getElem?_setIfInBounds_self_of_lt (by omega)], fun t ht h2 => by
                rw [Array.getElem?_setIfInBounds_ne (by omega)]
                exact hno.out t ht h2⟩
              case measure => simp [intOf]; omega
            · have hs : accL xs (lg xs) p (j + 1) = accL xs (lg xs) p j := by simp [accL, hg]
              have hg' : decide (gi xs p < gi xs (p + 1 + j)) = false := by simpa using hg
              have HS := Lib.hid hs
              have HR := Lib.hid hR
              have HCU := Lib.hid hcu
              clear hs hR hcu
              go_wp2
              go_quiet (fail)
              go_wp2
              go_roundw
              case rel => exact ⟨j + 1, _, by omega, by go_num, below_drewN hB _, HR.out, hsz, by rw [HS.out]; exact HCU.out, fun t ht h2 => hno.out t ht h2⟩
              case measure => simp [intOf]; omega
          · obtain rfl : n = p + 1 + j := by omega
            have hf := lg_eq xs p (by rw [HL.out]; omega)
            rw [HL.out, show p + 1 + j - 1 - p = j by omega] at hf
            have HF := Lib.hid hf
            have HR := Lib.hid hR
            clear hf hR
            go_wp2
            go_roundw
            case rel => exact ⟨p, _, by omega, by go_num, hB, HR.out, hsz, fun t ht h2 => by
              by_cases e : t = p
              · subst e; rw [HF.out]; exact hcu
              · exact hno.out t (by omega) h2⟩
            case measure => simp [intOf]

end Go.Proofs.Ytldjnfcdmhcjdaa
