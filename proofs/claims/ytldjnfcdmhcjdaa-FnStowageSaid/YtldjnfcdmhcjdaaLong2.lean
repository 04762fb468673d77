/- Contract: OrdersLongest of the reference. -/
import Derived.Test.YtldjnfcdmhcjdaaLong
import Derived.Test.YtldjnfcdmhcjdaaStack
namespace Go.Proofs.Ytldjnfcdmhcjdaa
open Go.RowKit

theorem Wr.grown2 {w w' : World} {lo hi : Nat} {v ov : Value} {xs : List Int} (h : Wr w lo hi v xs) (hg : w.grownBy w' ov.ownBlock) (ha : ∀ g, ov.ownBlock = some g → g < lo ∨ hi ≤ g) : Wr w' lo hi v xs :=
  h.of_block fun k hk h1 h2 => hg.block k hk (fun e => by have := ha k e.symm; omega)

theorem OwI.wr_of {w : World} {B : Nat} {v : Value} {ys : List Int} (h : OwI w B v ys) (hn : ys.length ≤ 1048576) : ∃ a c, v = .slice a ys.length c ∧ (0 < ys.length → ∃ b off, a = some ⟨b, off, none⟩ ∧ ∀ k, k < ys.length → w.cell? ⟨b, off + k, none⟩ = some (.int .i64 (gi ys k))) := by
  obtain ⟨a, n, cap, rfl, h1, h2, h3, h4, h5⟩ := (h.wr hn).sl
  subst h1
  refine ⟨a, cap, rfl, fun hp => ?_⟩
  obtain ⟨b, off, e, _, hc⟩ := h5 hp
  exact ⟨b, off, e, hc⟩

theorem grown_drewN {w w1 : World} {n : Nat} {r : Option Nat} (h : (w.drewN n).grownBy w1 r) : w.grownBy w1 r := ⟨h.os, h.tape, h.output, h.size, h.block⟩
theorem new_drewN {w : World} {n : Nat} {v v' : Value} (h : NewBlk (w.drewN n) v v') : NewBlk w v v' := h
theorem push_below {w wr w1 : World} {B : Nat} {ov : Value} {o : List Int} (hB : Below B w wr) (hs : B ≤ wr.heap.size) (hown : OwI wr B ov o) (hg : wr.grownBy w1 ov.ownBlock) : Below B w w1 :=
  hB.trans ((Below.refl B wr).grown hg hs (fun k hk => (hown.lt k hk).1))
theorem push_apart {w : World} {v v' : Value} {lo hi : Nat} (hn : NewBlk w v v') (hz : hi ≤ w.heap.size) (ha : ∀ g, v.ownBlock = some g → g < lo ∨ hi ≤ g) : ∀ g, v'.ownBlock = some g → g < lo ∨ hi ≤ g := by
  intro g hg
  rcases hn with e | ⟨g', e, h⟩
  · rw [e] at hg; exact ha g hg
  · rw [e] at hg; cases hg; omega

theorem specOrdersLongest_b (v : Value) (xs : List Int) (hi : Nat) (w : World) (hv : Sl w hi v xs) :
    Calls Try.prog 35 #[v] w fun e w' => ∃ r, e = .returned (.tuple #[r, .bool (ordB xs)]) ∧ Below w.heap.size w w' ∧ Wr w' w.heap.size w'.heap.size r (outLong xs) := by
  have hv0 := hv
  obtain ⟨ad, n, cap, rfl, hl, hn, hcap, hcap2, hc⟩ := hv
  have HV := Lib.hid hv0
  have HL := Lib.hid hl
  clear hv0 hl
  have hnew := OwI.new w w.heap.size 0 #[] (Nat.le_refl _) (by unfold maxLen; omega) rfl
  have hbel : Below w.heap.size w (w.alloc (.cells #[] 3)) := (Below.refl _ w).alloc (Nat.le_refl _) _
  have hsl : Sl (w.alloc (.cells #[] 3)) hi (.slice ad n cap) xs := HV.out.old hbel
  cases h1 : ordB xs with
  | false =>
    go_enter Try.func35, Try.ntmps35
    go_wp2_with fail
    refine (specOrdersValid_is _ xs hi _ hsl h1).mono ?_
    rintro e _ ⟨rfl, m, rfl⟩
    go_wp2
    go_ret2
    exact ⟨_, rfl, below_drewN hbel _, by rw [outLong, h1]; exact hnew.wr (by simp)⟩
  | true =>
    have ho : outLong xs = (takeL xs n).1 := by simp [outLong, h1, HL.out]
    have HO := Lib.hid ho
    clear ho
    have h10 : n ≤ 10 := by have := (ordB_true.1 h1).1; rw [HL.out] at this; exact this
    have HNEW := Lib.hid hnew
    have HBEL := Lib.hid hbel
    have HSL := Lib.hid hsl
    clear hnew hbel hsl
    go_enter Try.func35, Try.ntmps35
    go_wp2_with fail
    refine (specOrdersValid_is _ xs hi _ HSL.out h1).mono ?_
    rintro e _ ⟨rfl, m, rfl⟩
    go_wp2_with fail
    refine (l5Longest_any _ xs hi _ (HSL.out.drewN _)).mono ?_
    rintro e w2 ⟨rl, rfl, b2, r2⟩
    have hB2 : Below w.heap.size w w2 := (below_drewN HBEL.out m).trans (b2.mono (by simp))
    have r2 : Wr w2 (w.heap.size + 1) w2.heap.size rl (lgs xs) := by simpa using r2
    have o2 : OwI w2 w.heap.size (.slice (some ⟨w.heap.size, 0, none⟩) 0 0) [] := (HNEW.out.drewN m).below b2
    have s2 : w.heap.size + 1 ≤ w2.heap.size := by have := b2.size; simpa using this
    have r3 := r2.sl
    have R2 := Lib.hid r2
    obtain ⟨al, nl, cl, rfl, hll, hnl1, hnl2, hnl3, hcl⟩ := r3
    rw [lgs_len, HL.out] at hll
    subst hll
    have O2 := Lib.hid o2
    have HB2 := Lib.hid hB2
    clear b2 r2 o2 hB2
    go_wp2
    go_loop [6, 7] (fun c i => ∃ k : Nat, k ≤ n ∧ i = .int .i64 k ∧ c = .int .i64 (mxL xs k : Int)) (fun _ i => n - (intOf i).toNat)
    case atStart => exact ⟨0, Nat.zero_le _, rfl, rfl⟩
    case round =>
      obtain ⟨k, hk, rfl, rfl⟩ := hrel
      by_cases hlt : k < n
      · obtain ⟨bl, ofl, rfl, hbl, hcl⟩ := hcl (by omega)
        have hck := hcl k hlt
        rw [lgs_gi (by rw [HL.out]; exact hlt)] at hck
        clear hcl
        go_wp2
        go_round
        case rel => exact ⟨k + 1, by omega, by go_num, by simp only [mxL]; congr 1; omega⟩
        case measure => simp [intOf]; omega
      · obtain rfl : n = k := by omega
        clear hcl
        go_wp2
        go_loopw [4, 6, 8] (fun ov c i wr => ∃ (k : Nat) (o : List Int) (l : Nat), k ≤ n ∧ i = .int .i64 k ∧ c = .int .i64 (l : Int) ∧ Hid (takeL xs k = (o, l)) ∧ OwI wr w.heap.size ov o ∧ Below w.heap.size w wr ∧ Wr wr (w.heap.size + 1) w2.heap.size (.slice al n cl) (lgs xs) ∧
          w2.heap.size ≤ wr.heap.size ∧ Hid (∀ g, ov.ownBlock = some g → g < w.heap.size + 1 ∨ w2.heap.size ≤ g)) (fun _ _ i _ => n - (intOf i).toNat)
        case atStart => exact ⟨0, [], _, Nat.zero_le _, rfl, by rw [← HL.out], rfl, O2.out, HB2.out, R2.out, Nat.le_refl _, fun g hg => by
          left
          have : w.heap.size = g := by simpa [Value.ownBlock] using hg
          omega⟩
        case round =>
          obtain ⟨k, o, l, hk, rfl, rfl, htk, hown, hB, hW, hz, hav⟩ := hrel
          have htl := takeL_le xs k (by rw [HL.out]; exact hk)
          have hti := takeL_in xs k
          rw [htk.out] at htl hti
          simp only at htl hti
          obtain ⟨ao, co, rfl, hco⟩ := hown.wr_of (by omega)
          by_cases hlt : k < n
          · obtain ⟨al', nl', cl', hee, _, _, _, _, hcl⟩ := hW.sl
            cases hee
            obtain ⟨bl, ofl, rfl, hbl, hcl⟩ := hcl (by omega)
            have hck := hcl k hlt
            rw [lgs_gi (by rw [HL.out]; exact hlt)] at hck
            obtain ⟨b, off, rfl, hbh, hc⟩ := hc (by omega)
            have hbw := World.block_lt_of_cell? w _ (hc k hlt)
            simp only at hbw
            have hxk := (hB.cell (p := ⟨b, off + k, none⟩) hbw).trans (hc k hlt)
            have hs1 := hB.size
            have hlp := lg_pos xs k (by rw [HL.out]; exact hlt)
            have hle := lg_le xs k (by rw [HL.out]; exact hlt)
            rw [HL.out] at hle
            have HW := Lib.hid hW
            have HB := Lib.hid hB
            have HOWN := Lib.hid hown
            clear hcl hW hB hown
            by_cases he : lg xs k = l
            · subst he
              have hb1 : (((lg xs k : Nat) : Int) == (lg xs k : Int)) = true := by simp
              by_cases h0 : o.length = 0
              · have hb2 : ((o.length : Int) == 0) = true := by simp [h0]
                have htk2 := takeL_yes htk.out rfl (.inl h0)
                have HTK := Lib.hid htk2
                have H0 := Lib.hid h0
                clear htk2 hti h0
                go_wp2
                go_quiet (fail)
                go_wp2_with (at_builtin; refine wpList_push2 Try.underlying22 (HOWN.out.drewN _) (by rfl) (by rfl) (by rfl) (by rfl) (by omega) hs1 ?_; intro g c w1 hown1 hg1 hn1; replace hg1 := grown_drewN hg1; replace hn1 := new_drewN hn1)
                go_roundw
                case rel => exact ⟨k + 1, _, _, by omega, by go_num, by congr 1; omega, HTK.out, hown1, push_below HB.out hs1 HOWN.out hg1, HW.out.grown2 hg1 hav.out, Nat.le_trans hz hg1.size, push_apart hn1 hz hav.out⟩
                case measure => (simp [intOf]; exact Nat.sub_lt_sub_left hlt (Nat.lt_succ_self k))
              · have hb2 : ((o.length : Int) == 0) = false := by rw [beq_eq_false_iff_ne]; omega
                have htj := hti (o.length - 1) (by omega)
                obtain ⟨b3, off3, rfl, hcn⟩ := hco (by omega)
                have hcj := hcn (o.length - 1) (by omega)
                obtain ⟨q, hq⟩ := Int.eq_ofNat_of_zero_le htj.1
                have hxq := (HB.out.cell (p := ⟨b, off + q, none⟩) hbw).trans (hc q (by omega))
                rw [hq] at hcj
                have hw1 : IntKind.i64.wrap ((o.length : Int) - 1) = (o.length : Int) - 1 := IntWalk.i64_in _ (by omega)
                have hqn : (q : Int) < (n : Int) := by omega
                have HQ := Lib.hid hq
                clear hco hcn hti hq
                by_cases hg : gi xs q < gi xs k
                · have htk2 := takeL_yes htk.out rfl (.inr (by rw [HQ.out]; exact hg))
                  have HTK := Lib.hid htk2
                  clear htk2
                  go_wp2
                  go_quiet (fail)
                  go_wp2_with (at_builtin; refine wpList_push2 Try.underlying22 (HOWN.out.drewN _) (by rfl) (by rfl) (by rfl) (by rfl) (by omega) hs1 ?_; intro g c w1 hown1 hg1 hn1; replace hg1 := grown_drewN hg1; replace hn1 := new_drewN hn1)
                  go_roundw
                  case rel => exact ⟨k + 1, _, _, by omega, by go_num, by congr 1; omega, HTK.out, hown1, push_below HB.out hs1 HOWN.out hg1, HW.out.grown2 hg1 hav.out, Nat.le_trans hz hg1.size, push_apart hn1 hz hav.out⟩
                  case measure => simp [intOf]; omega
                · have htk2 := takeL_no htk.out (fun h => by
                    rcases h.2 with h | h
                    · exact h0 h
                    · rw [HQ.out] at h; exact hg h)
                  have HTK := Lib.hid htk2
                  have hg' : decide (gi xs q < gi xs k) = false := by simpa using hg
                  clear htk2
                  go_wp2
                  go_quiet (fail)
                  go_wp2
                  go_roundw
                  case rel => exact ⟨k + 1, _, _, by omega, by go_num, rfl, HTK.out, HOWN.out.drewN _, below_drewN HB.out _, HW.out.drewN _, hz, hav.out⟩
                  case measure => simp [intOf]; omega
            · have hb1 : (((lg xs k : Nat) : Int) == (l : Int)) = false := by simp; omega
              have htk2 := takeL_no htk.out (fun h => he h.1)
              have HTK := Lib.hid htk2
              clear htk2 hti
              go_wp2
              go_quiet (fail)
              go_wp2
              go_roundw
              case rel => exact ⟨k + 1, _, _, by omega, by go_num, rfl, HTK.out, HOWN.out.drewN _, below_drewN HB.out _, HW.out.drewN _, hz, hav.out⟩
              case measure => simp [intOf]; omega
          · obtain rfl : n = k := by omega
            go_wp2
            go_ret2
            exact ⟨_, rfl, hB, by rw [HO.out, htk.out]; exact hown.wr (by omega)⟩

end Go.Proofs.Ytldjnfcdmhcjdaa
