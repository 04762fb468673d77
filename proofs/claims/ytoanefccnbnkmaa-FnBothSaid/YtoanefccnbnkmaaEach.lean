/- Contract: eachFault, at the functions that it is handed. -/
import Derived.Test.YtoanefccnbnkmaaFault
namespace Go.Proofs.Ytoanefccnbnkmaa
open Go.RowKit

theorem implCableMiles_is {r : Int} (v : Value) (cs : List Int) (n hi : Nat) (w : World) (hv : SlF 3 w hi v cs n) (h : milesI cs n = r) :
    Calls Try.prog 42 #[v] w fun e w' => e = .returned (.int .i64 r) ∧ Below w.heap.size w w' := h ▸ implCableMiles_b v cs n hi w hv
theorem implCableOhms_is {r : Int} (v : Value) (m : Int) (cs : List Int) (n hi : Nat) (w : World) (hv : SlF 3 w hi v cs n) (h : ohmsI cs n m = r) :
    Calls Try.prog 54 #[v, .int .i64 m] w fun e w' => e = .returned (.int .i64 r) ∧ Below w.heap.size w w' := h ▸ implCableOhms_b v m cs n hi w hv
theorem nMl_sub {cs : List Int} {n : Nat} : milesI cs n = (nMl cs n : Int) - 1 := by
  have := milesI_bd (cs := cs) (n := n)
  unfold nMl; omega
theorem wrap_out {a R : Int} (ha : -9223372036854775808 ≤ a ∧ a ≤ 9223372036854775807) (hR : -1 ≤ R ∧ R ≤ 8000) (h : ¬ (-9223372036854775808 ≤ a - R ∧ a - R ≤ 9223372036854775807)) : inB (wrap64 (a - R)) 0 1000 = false ∧ inB (a - R) 0 1000 = false := by
  unfold wrap64
  constructor
  · cases hh : inB ((a - R + 9223372036854775808) % 18446744073709551616 - 9223372036854775808) 0 1000 with
    | false => rfl
    | true => rw [inB_true] at hh; omega
  · cases hh : inB (a - R) 0 1000 with
    | false => rfl
    | true => rw [inB_true] at hh; omega

set_option maxRecDepth 100000 in
set_option maxHeartbeats 1000000 in
theorem each_FaultFind (v : Value) (cs : List Int) (n hi : Nat) (a : Int) (p0 p1 p2 p3 : Value) (I : Nat → World → Prop) (Ix : World → Prop) (w : World) (ha : -9223372036854775808 ≤ a ∧ a ≤ 9223372036854775807) (hI0 : I 0 w)
    (hsl : ∀ k W, I k W → SlF 3 W hi v cs n) (hbel : ∀ k W W', I k W → Below W.heap.size W W' → I k W')
    (hskip : ∀ (k : Nat) W, k < nMl cs n → I k W → inB (a - ohmsI cs n k) 0 1000 = false → I (k + 1) W)
    (hstep : ∀ (k : Nat) W, k < nMl cs n → I k W → inB (a - ohmsI cs n k) 0 1000 = true → Calls Try.prog 68 #[.agg #[.int .i64 (k : Int), .int .i64 (a - ohmsI cs n k)], p0, p1, p2, p3] W fun e W' => (e = .returned (.bool true) ∧ I (k + 1) W') ∨ (e = .returned (.bool false) ∧ Ix W')) :
    Calls Try.prog 67 #[v, .int .i64 a, .func (.func 68) #[] #[p0, p1, p2, p3]] w fun e w' => e = .returned (.tuple #[]) ∧ Hid (I (nMl cs n) w' ∨ Ix w') := by
  have HSL := Lib.hid hsl
  have HBEL := Lib.hid hbel
  have HSK := Lib.hid hskip
  have HST := Lib.hid hstep
  have HI0 := Lib.hid hI0
  have HA := Lib.hid ha
  have HN := Lib.hid (nMl_sub (cs := cs) (n := n))
  have hN := nMl_le (cs := cs) (n := n)
  clear hsl hbel hskip hstep hI0 ha
  revert HSK HST HN hN
  generalize nMl cs n = N
  intro HSK HST HN hN
  go_enter Try.func67, Try.ntmps67
  go_wp2_with fail
  refine (implCableMiles_is _ cs n hi _ (HSL.out _ _ HI0.out) HN.out).mono ?_
  rintro e w1 ⟨rfl, b1⟩
  have HI1 := Lib.hid (HBEL.out _ _ _ HI0.out b1)
  clear b1
  go_wp2
  go_loopw [11] (fun i wr => ∃ k : Nat, k ≤ N ∧ i = .int .i64 k ∧ Hid (I k wr)) (fun i _ => N - (intOf i).toNat)
  case atStart => exact ⟨0, Nat.zero_le _, rfl, HI1.out⟩
  case round =>
    clear HI1
    obtain ⟨k, hk, rfl, hI⟩ := hrel
    by_cases hlt : k < N
    · have hR := ohmsI_bd (cs := cs) (n := n) (m := (k : Int))
      obtain ⟨R, hRe⟩ : ∃ R, ohmsI cs n (k : Int) = R := ⟨_, rfl⟩
      have HRE := Lib.hid hRe
      rw [hRe] at hR
      clear hRe
      go_wp2_with fail
      refine (implCableOhms_is _ (k : Int) cs n hi _ (HSL.out _ _ hI.out) HRE.out).mono ?_
      rintro e w2 ⟨rfl, b2⟩
      have hI2 := Lib.hid (HBEL.out _ _ _ hI.out b2)
      clear b2
      by_cases hwr : -9223372036854775808 ≤ a - R ∧ a - R ≤ 9223372036854775807
      · obtain ⟨hw1, hw2⟩ := hwr
        have HI3 := Lib.hid (HBEL.out _ _ _ hI2.out ((Below.refl _ w2).alloc (Nat.le_refl _) (.cells #[.int .i64 (k : Int), .int .i64 (a - R)] 41)))
        cases hin : inB (a - R) 0 1000 with
        | false =>
          go_wp2_with fail
          refine (ohmsValid_is _ _ hin).mono ?_
          rintro e _ ⟨rfl, rfl⟩
          go_wp2
          go_roundw
          case rel => exact ⟨k + 1, by omega, by go_num, HSK.out k _ hlt HI3.out (by rw [HRE.out]; exact hin)⟩
          case measure => simp [intOf]; omega
        | true =>
          go_wp2_with fail
          refine (ohmsValid_is _ _ hin).mono ?_
          rintro e _ ⟨rfl, rfl⟩
          have HC := HST.out k _ hlt HI3.out (by rw [HRE.out]; exact hin)
          rw [HRE.out] at HC
          have HC2 := Lib.hid HC
          clear HC
          go_wp2_with fail
          refine HC2.out.mono ?_
          rintro e w4 (⟨rfl, h4⟩ | ⟨rfl, h4⟩)
          · have H4 := Lib.hid h4
            clear h4
            go_wp2
            go_roundw
            case rel => exact ⟨k + 1, by omega, by go_num, H4.out⟩
            case measure => simp [intOf]; omega
          · have H4 := Lib.hid h4
            clear h4
            go_wp2
            refine bodyPost_ret (results_none rfl _ _ _) rfl ?_
            exact ⟨rfl, .inr H4.out⟩
      · obtain ⟨q1, q2⟩ := wrap_out HA.out hR hwr
        have HI3 := Lib.hid (HBEL.out _ _ _ hI2.out ((Below.refl _ w2).alloc (Nat.le_refl _) (.cells #[.int .i64 (k : Int), .int .i64 (wrap64 (a - R))] 41)))
        clear hwr
        have Q2 := Lib.hid q2
        clear q2
        go_wp2_with fail
        refine (ohmsValid_is _ _ q1).mono ?_
        rintro e _ ⟨rfl, rfl⟩
        go_wp2
        go_roundw
        case rel => exact ⟨k + 1, by omega, by go_num, HSK.out k _ hlt HI3.out (by rw [HRE.out]; exact Q2.out)⟩
        case measure => simp [intOf]; omega
    · obtain rfl : N = k := by omega
      go_wp2
      go_end0
      exact ⟨rfl, .inl hI.out⟩

set_option maxRecDepth 100000 in
set_option maxHeartbeats 1000000 in
theorem each_faultsIf (v : Value) (cs : List Int) (n hi : Nat) (a : Int) (p0 p1 : Value) (I : Nat → World → Prop) (Ix : World → Prop) (w : World) (ha : -9223372036854775808 ≤ a ∧ a ≤ 9223372036854775807) (hI0 : I 0 w)
    (hsl : ∀ k W, I k W → SlF 3 W hi v cs n) (hbel : ∀ k W W', I k W → Below W.heap.size W W' → I k W')
    (hskip : ∀ (k : Nat) W, k < nMl cs n → I k W → inB (a - ohmsI cs n k) 0 1000 = false → I (k + 1) W)
    (hstep : ∀ (k : Nat) W, k < nMl cs n → I k W → inB (a - ohmsI cs n k) 0 1000 = true → Calls Try.prog 92 #[.agg #[.int .i64 (k : Int), .int .i64 (a - ohmsI cs n k)], p0, p1] W fun e W' => (e = .returned (.bool true) ∧ I (k + 1) W') ∨ (e = .returned (.bool false) ∧ Ix W')) :
    Calls Try.prog 67 #[v, .int .i64 a, .func (.func 92) #[] #[p0, p1]] w fun e w' => e = .returned (.tuple #[]) ∧ Hid (I (nMl cs n) w' ∨ Ix w') := by
  have HSL := Lib.hid hsl
  have HBEL := Lib.hid hbel
  have HSK := Lib.hid hskip
  have HST := Lib.hid hstep
  have HI0 := Lib.hid hI0
  have HA := Lib.hid ha
  have HN := Lib.hid (nMl_sub (cs := cs) (n := n))
  have hN := nMl_le (cs := cs) (n := n)
  clear hsl hbel hskip hstep hI0 ha
  revert HSK HST HN hN
  generalize nMl cs n = N
  intro HSK HST HN hN
  go_enter Try.func67, Try.ntmps67
  go_wp2_with fail
  refine (implCableMiles_is _ cs n hi _ (HSL.out _ _ HI0.out) HN.out).mono ?_
  rintro e w1 ⟨rfl, b1⟩
  have HI1 := Lib.hid (HBEL.out _ _ _ HI0.out b1)
  clear b1
  go_wp2
  go_loopw [11] (fun i wr => ∃ k : Nat, k ≤ N ∧ i = .int .i64 k ∧ Hid (I k wr)) (fun i _ => N - (intOf i).toNat)
  case atStart => exact ⟨0, Nat.zero_le _, rfl, HI1.out⟩
  case round =>
    clear HI1
    obtain ⟨k, hk, rfl, hI⟩ := hrel
    by_cases hlt : k < N
    · have hR := ohmsI_bd (cs := cs) (n := n) (m := (k : Int))
      obtain ⟨R, hRe⟩ : ∃ R, ohmsI cs n (k : Int) = R := ⟨_, rfl⟩
      have HRE := Lib.hid hRe
      rw [hRe] at hR
      clear hRe
      go_wp2_with fail
      refine (implCableOhms_is _ (k : Int) cs n hi _ (HSL.out _ _ hI.out) HRE.out).mono ?_
      rintro e w2 ⟨rfl, b2⟩
      have hI2 := Lib.hid (HBEL.out _ _ _ hI.out b2)
      clear b2
      by_cases hwr : -9223372036854775808 ≤ a - R ∧ a - R ≤ 9223372036854775807
      · obtain ⟨hw1, hw2⟩ := hwr
        have HI3 := Lib.hid (HBEL.out _ _ _ hI2.out ((Below.refl _ w2).alloc (Nat.le_refl _) (.cells #[.int .i64 (k : Int), .int .i64 (a - R)] 41)))
        cases hin : inB (a - R) 0 1000 with
        | false =>
          go_wp2_with fail
          refine (ohmsValid_is _ _ hin).mono ?_
          rintro e _ ⟨rfl, rfl⟩
          go_wp2
          go_roundw
          case rel => exact ⟨k + 1, by omega, by go_num, HSK.out k _ hlt HI3.out (by rw [HRE.out]; exact hin)⟩
          case measure => simp [intOf]; omega
        | true =>
          go_wp2_with fail
          refine (ohmsValid_is _ _ hin).mono ?_
          rintro e _ ⟨rfl, rfl⟩
          have HC := HST.out k _ hlt HI3.out (by rw [HRE.out]; exact hin)
          rw [HRE.out] at HC
          have HC2 := Lib.hid HC
          clear HC
          go_wp2_with fail
          refine HC2.out.mono ?_
          rintro e w4 (⟨rfl, h4⟩ | ⟨rfl, h4⟩)
          · have H4 := Lib.hid h4
            clear h4
            go_wp2
            go_roundw
            case rel => exact ⟨k + 1, by omega, by go_num, H4.out⟩
            case measure => simp [intOf]; omega
          · have H4 := Lib.hid h4
            clear h4
            go_wp2
            refine bodyPost_ret (results_none rfl _ _ _) rfl ?_
            exact ⟨rfl, .inr H4.out⟩
      · obtain ⟨q1, q2⟩ := wrap_out HA.out hR hwr
        have HI3 := Lib.hid (HBEL.out _ _ _ hI2.out ((Below.refl _ w2).alloc (Nat.le_refl _) (.cells #[.int .i64 (k : Int), .int .i64 (wrap64 (a - R))] 41)))
        clear hwr
        have Q2 := Lib.hid q2
        clear q2
        go_wp2_with fail
        refine (ohmsValid_is _ _ q1).mono ?_
        rintro e _ ⟨rfl, rfl⟩
        go_wp2
        go_roundw
        case rel => exact ⟨k + 1, by omega, by go_num, HSK.out k _ hlt HI3.out (by rw [HRE.out]; exact Q2.out)⟩
        case measure => simp [intOf]; omega
    · obtain rfl : N = k := by omega
      go_wp2
      go_end0
      exact ⟨rfl, .inl hI.out⟩

set_option maxRecDepth 100000 in
set_option maxHeartbeats 1000000 in
theorem each_BreakRange (v : Value) (cs : List Int) (n hi : Nat) (a : Int) (p0 p1 p2 : Value) (I : Nat → World → Prop) (Ix : World → Prop) (w : World) (ha : -9223372036854775808 ≤ a ∧ a ≤ 9223372036854775807) (hI0 : I 0 w)
    (hsl : ∀ k W, I k W → SlF 3 W hi v cs n) (hbel : ∀ k W W', I k W → Below W.heap.size W W' → I k W')
    (hskip : ∀ (k : Nat) W, k < nMl cs n → I k W → inB (a - ohmsI cs n k) 0 1000 = false → I (k + 1) W)
    (hstep : ∀ (k : Nat) W, k < nMl cs n → I k W → inB (a - ohmsI cs n k) 0 1000 = true → Calls Try.prog 74 #[.agg #[.int .i64 (k : Int), .int .i64 (a - ohmsI cs n k)], p0, p1, p2] W fun e W' => (e = .returned (.bool true) ∧ I (k + 1) W') ∨ (e = .returned (.bool false) ∧ Ix W')) :
    Calls Try.prog 67 #[v, .int .i64 a, .func (.func 74) #[] #[p0, p1, p2]] w fun e w' => e = .returned (.tuple #[]) ∧ Hid (I (nMl cs n) w' ∨ Ix w') := by
  have HSL := Lib.hid hsl
  have HBEL := Lib.hid hbel
  have HSK := Lib.hid hskip
  have HST := Lib.hid hstep
  have HI0 := Lib.hid hI0
  have HA := Lib.hid ha
  have HN := Lib.hid (nMl_sub (cs := cs) (n := n))
  have hN := nMl_le (cs := cs) (n := n)
  clear hsl hbel hskip hstep hI0 ha
  revert HSK HST HN hN
  generalize nMl cs n = N
  intro HSK HST HN hN
  go_enter Try.func67, Try.ntmps67
  go_wp2_with fail
  refine (implCableMiles_is _ cs n hi _ (HSL.out _ _ HI0.out) HN.out).mono ?_
  rintro e w1 ⟨rfl, b1⟩
  have HI1 := Lib.hid (HBEL.out _ _ _ HI0.out b1)
  clear b1
  go_wp2
  go_loopw [11] (fun i wr => ∃ k : Nat, k ≤ N ∧ i = .int .i64 k ∧ Hid (I k wr)) (fun i _ => N - (intOf i).toNat)
  case atStart => exact ⟨0, Nat.zero_le _, rfl, HI1.out⟩
  case round =>
    clear HI1
    obtain ⟨k, hk, rfl, hI⟩ := hrel
    by_cases hlt : k < N
    · have hR := ohmsI_bd (cs := cs) (n := n) (m := (k : Int))
      obtain ⟨R, hRe⟩ : ∃ R, ohmsI cs n (k : Int) = R := ⟨_, rfl⟩
      have HRE := Lib.hid hRe
      rw [hRe] at hR
      clear hRe
      go_wp2_with fail
      refine (implCableOhms_is _ (k : Int) cs n hi _ (HSL.out _ _ hI.out) HRE.out).mono ?_
      rintro e w2 ⟨rfl, b2⟩
      have hI2 := Lib.hid (HBEL.out _ _ _ hI.out b2)
      clear b2
      by_cases hwr : -9223372036854775808 ≤ a - R ∧ a - R ≤ 9223372036854775807
      · obtain ⟨hw1, hw2⟩ := hwr
        have HI3 := Lib.hid (HBEL.out _ _ _ hI2.out ((Below.refl _ w2).alloc (Nat.le_refl _) (.cells #[.int .i64 (k : Int), .int .i64 (a - R)] 41)))
        cases hin : inB (a - R) 0 1000 with
        | false =>
          go_wp2_with fail
          refine (ohmsValid_is _ _ hin).mono ?_
          rintro e _ ⟨rfl, rfl⟩
          go_wp2
          go_roundw
          case rel => exact ⟨k + 1, by omega, by go_num, HSK.out k _ hlt HI3.out (by rw [HRE.out]; exact hin)⟩
          case measure => simp [intOf]; omega
        | true =>
          go_wp2_with fail
          refine (ohmsValid_is _ _ hin).mono ?_
          rintro e _ ⟨rfl, rfl⟩
          have HC := HST.out k _ hlt HI3.out (by rw [HRE.out]; exact hin)
          rw [HRE.out] at HC
          have HC2 := Lib.hid HC
          clear HC
          go_wp2_with fail
          refine HC2.out.mono ?_
          rintro e w4 (⟨rfl, h4⟩ | ⟨rfl, h4⟩)
          · have H4 := Lib.hid h4
            clear h4
            go_wp2
            go_roundw
            case rel => exact ⟨k + 1, by omega, by go_num, H4.out⟩
            case measure => simp [intOf]; omega
          · have H4 := Lib.hid h4
            clear h4
            go_wp2
            refine bodyPost_ret (results_none rfl _ _ _) rfl ?_
            exact ⟨rfl, .inr H4.out⟩
      · obtain ⟨q1, q2⟩ := wrap_out HA.out hR hwr
        have HI3 := Lib.hid (HBEL.out _ _ _ hI2.out ((Below.refl _ w2).alloc (Nat.le_refl _) (.cells #[.int .i64 (k : Int), .int .i64 (wrap64 (a - R))] 41)))
        clear hwr
        have Q2 := Lib.hid q2
        clear q2
        go_wp2_with fail
        refine (ohmsValid_is _ _ q1).mono ?_
        rintro e _ ⟨rfl, rfl⟩
        go_wp2
        go_roundw
        case rel => exact ⟨k + 1, by omega, by go_num, HSK.out k _ hlt HI3.out (by rw [HRE.out]; exact Q2.out)⟩
        case measure => simp [intOf]; omega
    · obtain rfl : N = k := by omega
      go_wp2
      go_end0
      exact ⟨rfl, .inl hI.out⟩

end Go.Proofs.Ytoanefccnbnkmaa
