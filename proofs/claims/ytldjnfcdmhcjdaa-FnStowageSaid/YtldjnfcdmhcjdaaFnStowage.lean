/- FnStowage: coils of a tank agree. -/
import Derived.Test.YtldjnfcdmhcjdaaLawC
import Derived.Test.YtldjnfcdmhcjdaaStowDr2
import Derived.Test.YtldjnfcdmhcjdaaOrd2
import Derived.Test.YtldjnfcdmhcjdaaOrd3
import Derived.Test.YtldjnfcdmhcjdaaStow
import Derived.Test.YtldjnfcdmhcjdaaStowI
import Derived.Test.YtldjnfcdmhcjdaaStowLaw
import Derived.Test.YtldjnfcdmhcjdaaStep
namespace Go.Proofs.Ytldjnfcdmhcjdaa.fnStowage
open Go.ChangeShapes Go.WideShapes Go.ChangeAt Go.RowKit
set_option linter.unusedVariables false

theorem implAgree_is {r : Bool} (v : Value) (xs : List Int) (a b : Int) (hi : Nat) (w : World) (hv : Sl w hi v xs) (h : agreeB xs a b = r) :
    Calls Try.prog 24 #[v, .int .i64 a, .int .i64 b] w fun e w' => e = .returned (.bool r) ∧ Q w w' := h ▸ implOrdersAgree_any v xs a b hi w hv
theorem drop_is {k : Nat} (v : Value) (xs : List Int) (hi : Nat) (w : World) (hv : Sl w hi v xs) (hk : k < xs.length) (h : ordB xs = true) (hl : xs.length ≤ 13) :
    Calls Try.prog 28 #[v, .int .i64 (k : Int)] w fun e w' => ∃ r, e = .returned (.tuple #[r, .bool true]) ∧ Below w.heap.size w w' ∧ Wr w' w.heap.size w'.heap.size r (dropTo xs k xs.length) := by
  have hin : inB (k : Int) 0 ((xs.length : Int) - 1) = true := inB_true.2 ⟨by omega, by omega⟩
  have ho : okDrop xs k = true := by simp only [okDrop, h, hin]; rfl
  have h2 := implOrdersDrop_b v k xs hi w hv (by omega)
  rw [ho, outDrop, if_pos ho] at h2
  simpa using h2

set_option maxRecDepth 100000 in
set_option maxHeartbeats 4000000 in
theorem walk (a0 : Option Addr) (len0 cap0 : Nat) (z0 : Unit) (a1 : Option Addr) (len1 cap1 : Nat) (z1 : Unit) (w : World) (h0 : By w w.heap.size (.slice a0 len0 cap0) len0) (_ : By w w.heap.size (.slice a1 len1 cap1) len1) :
    Calls Try.prog 16 #[.slice a0 len0 cap0, .slice a1 len1 cap1] w fun e w' => e = .returned (.bool true) ∧ Below w.heap.size w w' := by
  by_cases hn : len0 ≤ 1048576
  · have hlt : decide ((1048576 : Int) < (len0 : Int)) = false := decide_eq_false (by omega)
    by_cases hn1 : len1 ≤ 1048576
    · have hlt1 : decide ((1048576 : Int) < (len1 : Int)) = false := decide_eq_false (by omega)
      go_enter Try.func16, Try.ntmps16
      go_wp2_with fail
      refine (drawStowageValid_any _ len0 w.heap.size w h0 (Nat.le_refl _)).mono ?_
      rintro e w1 ⟨v0, v1, xs, ts, rfl, b1, r1, l1, t1, lt1, src1⟩
      have S1 := Lib.hid r1.sl
      have T1 := Lib.hid t1.sl
      have B1 := Lib.hid b1
      have C1 := Lib.hid src1
      clear r1 t1 b1 src1
      obtain ⟨ok, hok⟩ : ∃ ok, stowB xs ts = ok := ⟨_, rfl⟩
      have HOK := Lib.hid hok
      clear hok
      go_wp2_with fail
      refine (implStowageValid_is v0 v1 xs ts _ _ w1 S1.out T1.out HOK.out).mono ?_
      rintro e w2 ⟨rfl, b2⟩
      have S2 := Lib.hid (S1.out.old b2)
      have T2 := Lib.hid (T1.out.old b2)
      have B2 := Lib.hid (nextB B1.out b2)
      have C2 := Lib.hid (C1.out.old b2)
      clear b2 S1 T1 B1 C1
      go_wp2_with fail
      refine (specStowageValid_is _ _ xs ts _ _ _ S2.out T2.out HOK.out).mono ?_
      rintro e _ ⟨rfl, d2, rfl⟩
      cases ok with
      | false =>
        go_wp2
        go_ret
        exact ⟨rfl, below_drewN B2.out _⟩
      | true =>
        replace S2 : Hid (Sl (w2.drewN d2) w1.heap.size v0 xs) := Lib.hid (S2.out.drewN _)
        replace T2 : Hid (Sl (w2.drewN d2) w1.heap.size v1 ts) := Lib.hid (T2.out.drewN _)
        replace C2 : Hid (Src (w2.drewN d2) v1 ts) := Lib.hid (C2.out.drewN _)
        replace B2 : Hid (Below w.heap.size w (w2.drewN d2)) := Lib.hid (below_drewN B2.out _)
        revert S2 T2 C2 B2
        generalize w2.drewN d2 = w4
        intro S2 T2 C2 B2
        have hs := stowB_true.1 HOK.out
        have s3 := S2.out
        have t3 := T2.out
        have c3 := C2.out
        obtain ⟨ax, nx, cx, rfl, hlx, -, -, -, -⟩ := s3
        obtain ⟨ay, ny, cy, rfl, hly, _, hncy, hcy, hyc⟩ := t3
        have hxy : ny = nx := by have := hs.2.1; omega
        subst hxy
        rw [hlx] at l1
        have HS := Lib.hid hs.1
        have HLX := Lib.hid hlx
        have HLY := Lib.hid hly
        have HYC := Lib.hid hyc
        have HC3 := Lib.hid c3
        clear hs hlx hly hyc c3
        go_wp2
        go_loopw [9] (fun i wr => ∃ k : Nat, k ≤ ny ∧ i = .int .i64 k ∧ Q w4 wr) (fun i _ => ny - (intOf i).toNat)
        case atStart => exact ⟨0, Nat.zero_le _, rfl, Q.refl _⟩
        case round =>
          obtain ⟨k, hk, rfl, d, rfl⟩ := hrel
          by_cases hlt2 : k < ny
          · obtain ⟨b, off, rfl, hbh, hc⟩ := HYC.out (by omega)
            have hck := hc k hlt2
            have HCC := Lib.hid hc
            clear hc
            go_wp2
            go_loopw [10] (fun i wr => ∃ j : Nat, j ≤ k ∧ i = .int .i64 j ∧ Q w4 wr) (fun i _ => k - (intOf i).toNat)
            case atStart => exact ⟨0, Nat.zero_le _, rfl, _, rfl⟩
            case round =>
              clear d
              obtain ⟨j, hj, rfl, d, rfl⟩ := hrel
              by_cases hlt3 : j < k
              · have hcj := HCC.out j (by omega)
                by_cases he : gi ts k = gi ts j
                · have hb : (gi ts k == gi ts j) = true := by simp [he]
                  have hag := stow_pair HOK.out (i := k) (k := j) (by rw [HLY.out]; exact hlt2) hlt3 he
                  have HAG := Lib.hid hag
                  clear he hag
                  go_wp2
                  go_quiet ((go_at_call 24; exact quietQ' (implAgree_is _ xs _ _ _ _ (S2.out.drewN _) HAG.out)))
                  go_wp2
                  go_roundw
                  case rel => exact ⟨j + 1, by omega, by go_num, by first | exact ⟨_, rfl⟩ | exact Q.more _ _⟩
                  case measure => simp [intOf]; omega
                · have hb : (gi ts k == gi ts j) = false := by simp [he]
                  clear he
                  go_wp2
                  go_quiet (fail)
                  go_wp2
                  go_roundw
                  case rel => exact ⟨j + 1, by omega, by go_num, by first | exact ⟨_, rfl⟩ | exact Q.more _ _⟩
                  case measure => simp [intOf]; omega
              · obtain rfl : k = j := by omega
                go_wp2
                go_roundw
                case rel => exact ⟨k + 1, by omega, by go_num, _, rfl⟩
                case measure => simp [intOf]; omega
          · obtain rfl : ny = k := by omega
            by_cases hz : ny = 0
            · subst hz
              go_wp2
              go_ret
              exact ⟨rfl, below_drewN B2.out _⟩
            · have hnz : ((ny : Int) == 0) = false := by rw [beq_eq_false_iff_ne]; omega
              have hnzz : ¬ ny = 0 := hz
              have hm : (len1 : Int).tmod (ny : Int) = ((len1 % ny : Nat) : Int) := by rw [Int.tmod_eq_emod_of_nonneg (by omega)]; rfl
              have hml := Nat.mod_lt len1 (show 0 < ny by omega)
              revert hm hml
              generalize len1 % ny = k
              intro hm hml
              go_wp2_with fail
              refine (drop_is (k := k) _ xs _ _ (S2.out.drewN _) (by rw [HLX.out]; exact hml) HS.out (by rw [HLX.out]; exact l1)).mono ?_
              rintro e w5 ⟨r5, rfl, b5, o5⟩
              have T5 := Lib.hid ((T2.out.drewN d).old b5)
              have S5 := Lib.hid ((S2.out.drewN d).old b5)
              have B5 := Lib.hid (nextB (below_drewN B2.out d) b5)
              have R5 := Lib.hid o5.sl
              have C5 := Lib.hid ((HC3.out.drewN d).old b5)
              clear b5 o5 S2 T2 B2 HC3 C2 hm
              go_upto_region 20 with (fail)
              have t5 := T5.out
              obtain ⟨_, _, _, e5, hl5, -, -, -, hc5⟩ := t5
              cases e5
              obtain ⟨b, off, rfl, hbh5, hcell⟩ := hc5 (by omega)
              have SRC1 := Lib.hid (src_take (cap := cy) hl5 (Nat.le_of_lt hml) hcell)
              have SRC2 := Lib.hid (src_drop2 hl5 (show k + 1 ≤ ny from hml) hncy hcell)
              have OW := Lib.hid (OwI.new w5 w5.heap.size 0 #[] (Nat.le_refl _) (by unfold maxLen; omega) rfl)
              have HL5 := Lib.hid hl5
              clear hl5 hc5 hcell
              have hkc : k ≤ cy := by omega
              have hk1 : k + 1 ≤ ny := hml
              have hk1i : (k : Int) + 1 ≤ (ny : Int) := by omega
              have BA := Lib.hid (below_drewN ((Below.refl w5.heap.size w5).alloc (Nat.le_refl _) (.cells #[] 3)) 1)
              have ltk : (ts.take k).length ≤ 1048576 := by simp; omega
              have ldk : (ts.drop (k + 1)).length ≤ 1048576 := by simp; omega
              have LTK := Lib.hid ltk
              have LDK := Lib.hid ldk
              clear ltk ldk
              go_cut [14] from 88 (fun v wc => OwI wc w5.heap.size v (dropT ts k) ∧ Below w5.heap.size w5 wc)
              case first =>
                have hw1 : IntKind.i64.wrap ((k : Int) + 1) = (k : Int) + 1 := IntWalk.i64_in _ (by omega)
                have hw2 : (0 : Int) ≤ (k : Int) + 1 := by omega
                have hw3 : ((k : Int) + 1).toNat = k + 1 := by omega
                by_cases hcy : cy = k + 1
                · have SR2 : Hid (Src w5 (.slice (some ⟨b, off, none⟩) 0 0) (ts.drop (k + 1))) := Lib.hid (by
                    have hz : ts.drop (k + 1) = [] := List.drop_eq_nil_of_le (by rw [HL5.out]; omega)
                    rw [hz]
                    exact .inr ⟨b, off, 0, rfl, fun j hj => absurd hj (by simp)⟩)
                  subst hcy
                  have hkk : (k : Int) ≤ (k : Int) + 1 := by omega
                  go_region_law (first | (refine step_app (.tmp 88) (.tmp 91) (OW.out.drewN 1) (SRC1.out.old BA.out) rfl rfl rfl rfl (by simp) LTK.out (by simp) ?_; intro v6 w6 own6 b6; have BB := Lib.hid (BA.out.trans b6); have OW6 := Lib.hid own6; have hz6 := BB.out.size; clear own6 b6) | (refine step_app (.tmp 92) (.tmp 96) OW6.out (SR2.out.old BB.out) rfl rfl rfl rfl (by simp; omega) LDK.out hz6 ?_; intro v7 w7 own7 b7))
                  all_goals
                    clear hw1 hw2 hw3
                    go_wp2
                    go_meet
                    case rel => exact ⟨own7, BB.out.trans b7⟩
                · have SR2 : Hid (Src w5 (.slice (some ⟨b, off + (k + 1), none⟩) (ny - (k + 1)) (cy - (k + 1))) (ts.drop (k + 1))) := Lib.hid (by
                    have := SRC2.out
                    rwa [if_neg hcy] at this)
                  go_region_law (first | (refine step_app (.tmp 88) (.tmp 91) (OW.out.drewN 1) (SRC1.out.old BA.out) rfl rfl rfl rfl (by simp) LTK.out (by simp) ?_; intro v6 w6 own6 b6; have BB := Lib.hid (BA.out.trans b6); have OW6 := Lib.hid own6; have hz6 := BB.out.size; clear own6 b6) | (refine step_app (.tmp 92) (.tmp 96) OW6.out (SR2.out.old BB.out) rfl rfl rfl rfl (by simp; omega) LDK.out hz6 ?_; intro v7 w7 own7 b7))
                  all_goals
                    clear hw1 hw2 hw3
                    go_wp2
                    go_meet
                    case rel => exact ⟨own7, BB.out.trans b7⟩
              case rest =>
                obtain ⟨hown, hbel⟩ := hcut
                have T6 := Lib.hid (T5.out.old hbel)
                have S6 := Lib.hid (S5.out.old hbel)
                have R6 := Lib.hid (R5.out.old hbel)
                have W6 := Lib.hid (hown.wr (by rw [dropT_len (by rw [HL5.out]; exact hml), HL5.out]; omega)).sl
                have B6 := Lib.hid (nextB B5.out hbel)
                have NEW := Lib.hid (OwI.new wc wc.heap.size 0 #[] (Nat.le_refl _) (by unfold maxLen; omega) rfl)
                have BEL := Lib.hid ((Below.refl wc.heap.size wc).alloc (Nat.le_refl _) (.cells #[] 3))
                have hc6 : ∀ j, j < ny → wc.cell? ⟨b, off + j, none⟩ = some (.int .i64 (gi ts j)) := by
                  have t6 := T6.out
                  obtain ⟨_, _, _, e6, _, _, _, _, hc6⟩ := t6
                  cases e6
                  obtain ⟨b', off', e7, _, hc7⟩ := hc6 (by omega)
                  cases e7
                  exact hc7
                have HC6 := Lib.hid hc6
                clear hown hbel hc6 T5 S5 R5 B5 C5 SRC1 SRC2 OW BA LTK LDK hkc hk1 hk1i
                go_wp2
                go_loopw [15, 16, 17] (fun ov us i wr => ∃ m : Nat, m ≤ ny ∧ i = .int .i64 m ∧ us = .bool (used4 ts m) ∧ OwI wr wc.heap.size ov (mvTo ts k m) ∧ Below wc.heap.size wc wr) (fun _ _ i _ => ny - (intOf i).toNat)
                case atStart => exact ⟨0, Nat.zero_le _, rfl, rfl, NEW.out, BEL.out⟩
                case round =>
                  clear NEW BEL
                  obtain ⟨m, hm, rfl, rfl, hown, hB⟩ := hrel
                  have hz : wc.heap.size ≤ wr.heap.size := hB.size
                  have HO := Lib.hid hown
                  have HB := Lib.hid hB
                  clear hown hB
                  by_cases hmn : m < ny
                  · have hcm := (HB.out.cell (p := ⟨b, off + m, none⟩) (World.block_lt_of_cell? wc _ (HC6.out m hmn))).trans (HC6.out m hmn)
                    have hck := (HB.out.cell (p := ⟨b, off + k, none⟩) (World.block_lt_of_cell? wc _ (HC6.out k hml))).trans (HC6.out k hml)
                    have HS4 : Hid (used4 ts (m + 1) = (used4 ts m || (gi ts m == 4))) := Lib.hid rfl
                    have hlm : (mvTo ts k m).length ≤ 1048576 := by rw [mvTo_len]; omega
                    have HLM := Lib.hid hlm
                    clear hlm
                    cases hu : used4 ts m with
                    | true =>
                      by_cases he : gi ts m = gi ts k
                      · have hb : (gi ts m == gi ts k) = true := by simp [he]
                        have HM := Lib.hid (mvTo_yes (m := m) he)
                        clear he
                        go_wp2
                        go_quiet (fail)
                        have hzq : wc.heap.size ≤ (wr.drewN nq).heap.size := hz
                        go_wp2_with (at_builtin; refine wpList_push2 Try.underlying22 (HO.out.drewN nq) (by rfl) (by rfl) (by rfl) (by rfl) HLM.out hzq ?_; intro g c w7 hown1 hg1 hn1)
                        go_roundw
                        case rel => exact ⟨m + 1, by omega, by go_num, by rw [HS4.out, hu]; rfl, by rw [HM.out]; exact hown1, push_below (below_drewN HB.out nq) hzq (HO.out.drewN nq) hg1⟩
                        case measure => simp [intOf]; omega
                      · have hb : (gi ts m == gi ts k) = false := by simp [he]
                        have HM := Lib.hid (mvTo_no (m := m) he)
                        clear he
                        go_wp2
                        go_quiet (fail)
                        have hzq : wc.heap.size ≤ (wr.drewN nq).heap.size := hz
                        go_wp2_with (at_builtin; refine wpList_push2 Try.underlying22 (HO.out.drewN nq) (by rfl) (by rfl) (by rfl) (by rfl) HLM.out hzq ?_; intro g c w7 hown1 hg1 hn1)
                        go_roundw
                        case rel => exact ⟨m + 1, by omega, by go_num, by rw [HS4.out, hu]; rfl, by rw [HM.out]; exact hown1, push_below (below_drewN HB.out nq) hzq (HO.out.drewN nq) hg1⟩
                        case measure => simp [intOf]; omega
                    | false =>
                      by_cases he : gi ts m = gi ts k
                      · have hb : (gi ts m == gi ts k) = true := by simp [he]
                        have HM := Lib.hid (mvTo_yes (m := m) he)
                        clear he
                        go_wp2
                        go_quiet (fail)
                        have hzq : wc.heap.size ≤ (wr.drewN nq).heap.size := hz
                        go_wp2_with (at_builtin; refine wpList_push2 Try.underlying22 (HO.out.drewN nq) (by rfl) (by rfl) (by rfl) (by rfl) HLM.out hzq ?_; intro g c w7 hown1 hg1 hn1)
                        go_roundw
                        case rel => exact ⟨m + 1, by omega, by go_num, by rw [HS4.out, hu]; rfl, by rw [HM.out]; exact hown1, push_below (below_drewN HB.out nq) hzq (HO.out.drewN nq) hg1⟩
                        case measure => simp [intOf]; omega
                      · have hb : (gi ts m == gi ts k) = false := by simp [he]
                        have HM := Lib.hid (mvTo_no (m := m) he)
                        clear he
                        go_wp2
                        go_quiet (fail)
                        have hzq : wc.heap.size ≤ (wr.drewN nq).heap.size := hz
                        go_wp2_with (at_builtin; refine wpList_push2 Try.underlying22 (HO.out.drewN nq) (by rfl) (by rfl) (by rfl) (by rfl) HLM.out hzq ?_; intro g c w7 hown1 hg1 hn1)
                        go_roundw
                        case rel => exact ⟨m + 1, by omega, by go_num, by rw [HS4.out, hu]; rfl, by rw [HM.out]; exact hown1, push_below (below_drewN HB.out nq) hzq (HO.out.drewN nq) hg1⟩
                        case measure => simp [intOf]; omega
                  · obtain rfl : ny = m := by omega
                    have HD := Lib.hid (stow_drop HOK.out (k := k) (by rw [HLY.out]; exact hml))
                    go_wp2_with fail
                    refine (implStowageValid_is _ _ _ _ _ _ _ (R6.out.old HB.out) (W6.out.old HB.out) HD.out).mono ?_
                    rintro e w8 ⟨rfl, b8⟩
                    have B8 := Lib.hid (nextB (B6.out.trans (HB.out.mono B6.out.size)) b8)
                    cases hu : used4 ts ny with
                    | true =>
                      clear b8
                      go_wp2
                      go_ret
                      exact ⟨rfl, B8.out⟩
                    | false =>
                      have HMV := Lib.hid (stow_move HOK.out (k := k) (by rw [HLY.out]; exact hu))
                      have MV := Lib.hid ((HO.out.wr (by rw [mvTo_len]; omega)).sl.old b8)
                      have S8 := Lib.hid ((S6.out.old HB.out).old b8)
                      rw [HLY.out] at HMV
                      clear b8
                      go_wp2_with fail
                      refine (implStowageValid_is _ _ _ _ _ _ _ S8.out MV.out HMV.out).mono ?_
                      rintro e w9 ⟨rfl, b9⟩
                      have B9 := Lib.hid (nextB B8.out b9)
                      clear b9
                      go_wp2
                      go_ret
                      exact ⟨rfl, B9.out⟩
    · have hlt1 : decide ((1048576 : Int) < (len1 : Int)) = true := decide_eq_true (by omega)
      go_enter Try.func16, Try.ntmps16
      go_wp2
      go_ret
      exact ⟨rfl, Below.refl _ _⟩
  · have hlt : decide ((1048576 : Int) < (len0 : Int)) = true := decide_eq_true (by omega)
    go_enter Try.func16, Try.ntmps16
    go_wp2
    go_ret
    exact ⟨rfl, Below.refl _ _⟩

set_option maxRecDepth 100000 in
theorem lifted (os : Os) (started : os.Started) (H : Type) (enc : TypeId × Value → H) :
    ReturnsInHanded {} Try.checked os 16 .any (Rows.fnStowageSpec.pre6 enc Try.prog Try.f16 Rows.fnStowageRow.domain false) (Rows.fnStowageSpec.post enc Try.prog Try.f16 false true false false) := by
  refine returnsInHanded_of_change (C := Try.checked) own started (by kernel_rfl) Try.func16
    (ChangeSpec.witness6 (enc := enc) (C := Try.checked) false ⟨#[], #[.slice none 0 0, .slice none 0 0], []⟩ 8 (by kernel_rfl) (by kernel_rfl) (by kernel_rfl) (by kernel_rfl)) ?_
  intro W base args ds gs before hval0 hW hcnd _
  have hval : ∀ (j : Nat) t v, Try.f16.params[j]? = some t → args[j]? = some v → Value.okWide Try.prog W .any base t v := hval0
  have hW' := hW
  obtain ⟨p, q, hA0, hV, rfl, hfz, hnd⟩ := hW
  have hA : DataW.TrodAll enc Try.prog W 0 (fun _ => true) true Try.f16.params.toList args.toList ds p := hA0
  rw [Try.params16] at hA hval
  obtain ⟨v0, vs0, d0, ds0, p0, q0, hargs, rfl, rfl, h0, r0⟩ := trodAll_cons hA
  obtain ⟨v1, vs1, d1, ds1, p1, q1, rfl, rfl, rfl, h1, r1⟩ := trodAll_cons r0
  obtain ⟨rfl, rfl, rfl⟩ := trodAll_nil r1
  obtain rfl : args = #[v0, v1] := by cases args; simp_all
  obtain ⟨rfl, rfl⟩ := trodVars_none hV
  obtain ⟨a0, len0, cap0, rfl⟩ := okWide_slice Try.underlying33 (hval 0 33 v0 rfl rfl)
  have k0 := h0
  have lt0 : ∀ x ∈ p0, x.block < W.heap.size := by obtain ⟨m, hm⟩ := k0; exact DataW.trod_lt m _ _ _ hm
  obtain ⟨z0, w0⟩ := by0_of h0
  obtain ⟨a1, len1, cap1, rfl⟩ := okWide_slice Try.underlying33 (hval 1 33 v1 rfl rfl)
  have k1 := h1
  have lt1 : ∀ x ∈ p1, x.block < W.heap.size := by obtain ⟨m, hm⟩ := k1; exact DataW.trod_lt m _ _ _ hm
  obtain ⟨z1, w1⟩ := by0_of h1
  clear hA0 hval0
  refine (walk a0 len0 cap0 z0 a1 len1 cap1 z1 W w0 w1).mono fun e W' ⟨he, bel⟩ => ?_
  subst he
  exact ⟨_, rfl, _, _, _, [], _, [], hW', trodAll_mk1 (shut_bool Try.underlying4 _), (trodAll_cons_mk (Below.trod laidOut (by kernel_rfl) (of_decide_eq_true (by kernel_rfl)) k0 bel lt0) (trodAll_cons_mk (Below.trod laidOut (by kernel_rfl) (of_decide_eq_true (by kernel_rfl)) k1 bel lt1) trodAll_mk0)), rfl, bel.frame _, fun h => by cases h⟩

theorem over : Rows.fnStowageRow.holds Try.pinned (OpenSpec.ofChange Rows.fnStowageSpec) :=
  OpenClaim.holds_of_wide 16 Try.f16 rfl rfl rfl rfl rfl rfl rfl ⟨rfl, rfl, rfl, rfl, rfl⟩ rfl rfl rfl rfl rfl (by kernel_rfl) Try.func16 (facts_of signs (by kernel_rfl))
    (of_decide_eq_true (by kernel_rfl)) (by unfold Func.isWrapper; first | (rw [if_pos (by decide +kernel)]; kernel_rfl) | (rw [if_neg (by decide +kernel)]; exact ⟨rfl, rfl⟩))
    (fun os started H enc _ => lifted os started H enc)

theorem proved : Rows.FnStowageSaid := over
#print axioms proved

end Go.Proofs.Ytldjnfcdmhcjdaa.fnStowage
