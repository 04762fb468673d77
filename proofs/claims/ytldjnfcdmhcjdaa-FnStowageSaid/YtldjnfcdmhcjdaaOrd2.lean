/- Contracts: agree, OrdersAgree and OrdersPairs of the program and of the reference. -/
import Derived.Test.YtldjnfcdmhcjdaaOrd
namespace Go.Proofs.Ytldjnfcdmhcjdaa
open Go.RowKit

theorem agree_any (v : Value) (xs : List Int) (a b : Nat) (hi : Nat) (w : World) (hv : Sl w hi v xs) (ha : a < xs.length) (hb : b < xs.length) :
    Calls Try.prog 56 #[v, .int .i64 a, .int .i64 b] w fun e w' => e = .returned (.bool (agrB xs a b)) ∧ Q w w' := by
  obtain ⟨ad, n, cap, rfl, hl, hn, hcap, hcap2, hc⟩ := hv
  rw [hl] at ha hb
  obtain ⟨g, off, rfl, hbh, hc⟩ := hc (by omega)
  have hca := hc a ha
  have hcb := hc b hb
  clear hc hl
  go_enter Try.func56, Try.ntmps56
  go_wp2
  go_quiet (fail)
  go_wp2
  go_ret
  exact ⟨rfl, _, rfl⟩

theorem agree_is {r : Bool} (v : Value) (xs : List Int) (a b : Nat) (hi : Nat) (w : World) (hv : Sl w hi v xs) (ha : a < xs.length) (hb : b < xs.length) (h : agrB xs a b = r) :
    Calls Try.prog 56 #[v, .int .i64 a, .int .i64 b] w fun e w' => e = .returned (.bool r) ∧ Q w w' := h ▸ agree_any v xs a b hi w hv ha hb

theorem specOrdersAgree_any (v : Value) (xs : List Int) (a b : Int) (hi : Nat) (w : World) (hv : Sl w hi v xs) :
    Calls Try.prog 23 #[v, .int .i64 a, .int .i64 b] w fun e w' => e = .returned (.bool (agreeB xs a b)) ∧ Q w w' := by
  have hv0 := hv
  obtain ⟨ad, n, cap, rfl, hl, hn, hcap, hcap2, hc⟩ := hv
  have HV := Lib.hid hv0
  have HL := Lib.hid hl
  clear hv0 hl
  cases h1 : ordB xs with
  | false =>
    go_enter Try.func23, Try.ntmps23
    go_wp2_with fail
    refine (specOrdersValid_is _ xs hi _ HV.out h1).mono ?_
    rintro e _ ⟨rfl, m, rfl⟩
    go_wp2
    go_ret
    exact ⟨by simp [agreeB, h1], _, rfl⟩
  | true =>
    cases h2 : inB a 0 ((n : Int) - 1) with
    | false =>
      go_enter Try.func23, Try.ntmps23
      go_wp2_with fail
      refine (specOrdersValid_is _ xs hi _ HV.out h1).mono ?_
      rintro e _ ⟨rfl, m, rfl⟩
      go_wp2_with fail
      refine (l6In_is _ _ _ _ h2).mono ?_
      rintro e _ ⟨rfl, rfl⟩
      go_wp2
      go_ret
      exact ⟨by simp [agreeB, HL.out, h2], _, rfl⟩
    | true =>
      cases h3 : inB b 0 ((n : Int) - 1) with
      | false =>
        go_enter Try.func23, Try.ntmps23
        go_wp2_with fail
        refine (specOrdersValid_is _ xs hi _ HV.out h1).mono ?_
        rintro e _ ⟨rfl, m, rfl⟩
        go_wp2_with fail
        refine (l6In_is _ _ _ _ h2).mono ?_
        rintro e _ ⟨rfl, rfl⟩
        go_wp2_with fail
        refine (l6In_is _ _ _ _ h3).mono ?_
        rintro e _ ⟨rfl, rfl⟩
        go_wp2
        go_ret
        exact ⟨by simp [agreeB, HL.out, h3], _, rfl⟩
      | true =>
        have h2' := inB_true.1 h2
        have h3' := inB_true.1 h3
        obtain ⟨a', rfl⟩ := Int.eq_ofNat_of_zero_le h2'.1
        obtain ⟨b', rfl⟩ := Int.eq_ofNat_of_zero_le h3'.1
        have ha : a' < n := by omega
        have hb : b' < n := by omega
        have fin : agreeB xs a' b' = (((a' : Int) != (b' : Int)) && agrB xs a' b') := by
          simp only [agreeB, h1, HL.out, h2, h3, Bool.true_and, Int.toNat_natCast]
        have FIN := Lib.hid fin
        clear fin h2' h3'
        obtain ⟨g, off, rfl, hbh, hc⟩ := hc (by omega)
        have hca := hc a' ha
        have hcb := hc b' hb
        clear hc
        cases h4 : ((a' : Int) == (b' : Int)) with
        | true =>
          go_enter Try.func23, Try.ntmps23
          go_wp2_with fail
          refine (specOrdersValid_is _ xs hi _ HV.out h1).mono ?_
          rintro e _ ⟨rfl, m, rfl⟩
          go_wp2_with fail
          refine (l6In_is _ _ _ _ h2).mono ?_
          rintro e _ ⟨rfl, rfl⟩
          go_wp2_with fail
          refine (l6In_is _ _ _ _ h3).mono ?_
          rintro e _ ⟨rfl, rfl⟩
          go_wp2
          go_ret
          exact ⟨by rw [FIN.out]; simp only [bne, h4]; rfl, _, rfl⟩
        | false =>
          go_enter Try.func23, Try.ntmps23
          go_wp2_with fail
          refine (specOrdersValid_is _ xs hi _ HV.out h1).mono ?_
          rintro e _ ⟨rfl, m, rfl⟩
          go_wp2_with fail
          refine (l6In_is _ _ _ _ h2).mono ?_
          rintro e _ ⟨rfl, rfl⟩
          go_wp2_with fail
          refine (l6In_is _ _ _ _ h3).mono ?_
          rintro e _ ⟨rfl, rfl⟩
          go_wp2
          go_quiet (fail)
          go_wp2
          go_ret
          exact ⟨by rw [FIN.out]; simp only [bne, h4]; rfl, _, by first | rfl | exact World.drewN_drewN _ _ _⟩

theorem specOrdersAgree_is {r : Bool} (v : Value) (xs : List Int) (a b : Int) (hi : Nat) (w : World) (hv : Sl w hi v xs) (h : agreeB xs a b = r) :
    Calls Try.prog 23 #[v, .int .i64 a, .int .i64 b] w fun e w' => e = .returned (.bool r) ∧ Q w w' := h ▸ specOrdersAgree_any v xs a b hi w hv

theorem implOrdersAgree_any (v : Value) (xs : List Int) (a b : Int) (hi : Nat) (w : World) (hv : Sl w hi v xs) :
    Calls Try.prog 24 #[v, .int .i64 a, .int .i64 b] w fun e w' => e = .returned (.bool (agreeB xs a b)) ∧ Q w w' := by
  have hv0 := hv
  obtain ⟨ad, n, cap, rfl, hl, hn, hcap, hcap2, hc⟩ := hv
  have HV := Lib.hid hv0
  have HL := Lib.hid hl
  clear hv0 hl hc
  cases h1 : ordB xs with
  | false =>
    go_enter Try.func24, Try.ntmps24
    go_wp2_with fail
    refine (implOrdersValid_is _ xs hi _ HV.out h1).mono ?_
    rintro e _ ⟨rfl, rfl⟩
    go_wp2
    go_ret
    exact ⟨by simp [agreeB, h1], Q.refl _⟩
  | true =>
    cases h2 : inB a 0 ((n : Int) - 1) with
    | false =>
      go_enter Try.func24, Try.ntmps24
      go_wp2_with fail
      refine (implOrdersValid_is _ xs hi _ HV.out h1).mono ?_
      rintro e _ ⟨rfl, rfl⟩
      go_wp2_with fail
      refine (within_is _ _ _ _ h2).mono ?_
      rintro e _ ⟨rfl, rfl⟩
      go_wp2
      go_ret
      exact ⟨by simp [agreeB, HL.out, h2], Q.refl _⟩
    | true =>
      cases h3 : inB b 0 ((n : Int) - 1) with
      | false =>
        go_enter Try.func24, Try.ntmps24
        go_wp2_with fail
        refine (implOrdersValid_is _ xs hi _ HV.out h1).mono ?_
        rintro e _ ⟨rfl, rfl⟩
        go_wp2_with fail
        refine (within_is _ _ _ _ h2).mono ?_
        rintro e _ ⟨rfl, rfl⟩
        go_wp2_with fail
        refine (within_is _ _ _ _ h3).mono ?_
        rintro e _ ⟨rfl, rfl⟩
        go_wp2
        go_ret
        exact ⟨by simp [agreeB, HL.out, h3], Q.refl _⟩
      | true =>
        have h2' := inB_true.1 h2
        have h3' := inB_true.1 h3
        obtain ⟨a', rfl⟩ := Int.eq_ofNat_of_zero_le h2'.1
        obtain ⟨b', rfl⟩ := Int.eq_ofNat_of_zero_le h3'.1
        have ha : a' < n := by omega
        have hb : b' < n := by omega
        have fin : agreeB xs a' b' = (((a' : Int) != (b' : Int)) && agrB xs a' b') := by
          simp only [agreeB, h1, HL.out, h2, h3, Bool.true_and, Int.toNat_natCast]
        have FIN := Lib.hid fin
        clear fin h2' h3'
        cases h4 : ((a' : Int) == (b' : Int)) with
        | true =>
          have h5 : ((a' : Int) != (b' : Int)) = false := by simp only [bne, h4]; rfl
          go_enter Try.func24, Try.ntmps24
          go_wp2_with fail
          refine (implOrdersValid_is _ xs hi _ HV.out h1).mono ?_
          rintro e _ ⟨rfl, rfl⟩
          go_wp2_with fail
          refine (within_is _ _ _ _ h2).mono ?_
          rintro e _ ⟨rfl, rfl⟩
          go_wp2_with fail
          refine (within_is _ _ _ _ h3).mono ?_
          rintro e _ ⟨rfl, rfl⟩
          go_wp2
          go_ret
          exact ⟨by rw [FIN.out, h5]; rfl, Q.refl _⟩
        | false =>
          have h5 : ((a' : Int) != (b' : Int)) = true := by simp only [bne, h4]; rfl
          go_enter Try.func24, Try.ntmps24
          go_wp2_with fail
          refine (implOrdersValid_is _ xs hi _ HV.out h1).mono ?_
          rintro e _ ⟨rfl, rfl⟩
          go_wp2_with fail
          refine (within_is _ _ _ _ h2).mono ?_
          rintro e _ ⟨rfl, rfl⟩
          go_wp2_with fail
          refine (within_is _ _ _ _ h3).mono ?_
          rintro e _ ⟨rfl, rfl⟩
          go_wp2_with fail
          refine (agree_any _ xs a' b' hi _ HV.out (by rw [HL.out]; exact ha) (by rw [HL.out]; exact hb)).mono ?_
          rintro e _ ⟨rfl, m, rfl⟩
          go_wp2
          go_ret
          exact ⟨by rw [FIN.out, h5]; rfl, _, rfl⟩

theorem specOrdersPairs_any (v : Value) (xs : List Int) (hi : Nat) (w : World) (hv : Sl w hi v xs) :
    Calls Try.prog 25 #[v] w fun e w' => e = .returned (.int .i64 (pairsI xs)) ∧ Q w w' := by
  have hv0 := hv
  obtain ⟨ad, n, cap, rfl, hl, hn, hcap, hcap2, hc⟩ := hv
  have HV := Lib.hid hv0
  have HL := Lib.hid hl
  clear hv0 hl hc
  cases h1 : ordB xs with
  | false =>
    go_enter Try.func25, Try.ntmps25
    go_wp2_with fail
    refine (specOrdersValid_is _ xs hi _ HV.out h1).mono ?_
    rintro e _ ⟨rfl, m, rfl⟩
    go_wp2
    go_ret
    exact ⟨by simp [pairsI, h1], _, rfl⟩
  | true =>
    have h10 : n ≤ 10 := by have := (ordB_true.1 h1).1; rw [HL.out] at this; exact this
    go_enter Try.func25, Try.ntmps25
    go_wp2_with fail
    refine (specOrdersValid_is _ xs hi _ HV.out h1).mono ?_
    rintro e _ ⟨rfl, m, rfl⟩
    go_wp2
    go_loopw [3, 4] (fun c i wr => ∃ k : Nat, k ≤ n ∧ i = .int .i64 k ∧ c = .int .i64 (pairsTo xs k : Int) ∧ Q w wr) (fun _ i _ => n - (intOf i).toNat)
    case atStart => exact ⟨0, Nat.zero_le _, rfl, rfl, _, rfl⟩
    case round =>
      obtain ⟨k, hk, rfl, rfl, m2, rfl⟩ := hrel
      have hp : pairsTo xs k ≤ 100 := by
        have := pairsTo_le xs k
        have : k * k ≤ 10 * 10 := Nat.mul_le_mul (by omega) (by omega)
        omega
      by_cases hlt : k < n
      · go_wp2
        go_loopw [3, 5] (fun c i wr => ∃ j : Nat, j ≤ k ∧ i = .int .i64 j ∧ c = .int .i64 ((pairsTo xs k : Int) + (cntTo xs k j : Int)) ∧ Q w wr) (fun _ i _ => k - (intOf i).toNat)
        case atStart => exact ⟨0, Nat.zero_le _, rfl, by simp [cntTo], _, rfl⟩
        case round =>
          obtain ⟨j, hj, rfl, rfl, m3, rfl⟩ := hrel
          have hcj : cntTo xs k j ≤ 10 := by have := cntTo_le xs k j; omega
          by_cases hjl : j < k
          · cases ha : agrB xs j k with
            | true =>
              have hb : agreeB xs k j = true := by
                have hh := agrB_swap h1 (i := k) (k := j) (by rw [HL.out]; exact hlt) hjl
                simp only [agreeB, h1, HL.out, Int.toNat_natCast, hh, ha, inB]
                simp
                omega
              have hs : cntTo xs k (j + 1) = cntTo xs k j := by simp [cntTo, ha]
              have HS := Lib.hid hs
              clear hs
              go_wp2_with fail
              refine (specOrdersAgree_is _ xs _ _ hi _ (HV.out.drewN _) hb).mono ?_
              rintro e _ ⟨rfl, m4, rfl⟩
              go_wp2
              go_roundw
              case rel => exact ⟨j + 1, by omega, by go_num, by rw [HS.out], by first | exact ⟨_, rfl⟩ | exact Q.more _ _⟩
              case measure => simp [intOf]; omega
            | false =>
              have hb : agreeB xs k j = false := by
                have hh := agrB_swap h1 (i := k) (k := j) (by rw [HL.out]; exact hlt) hjl
                simp only [agreeB, hh, ha, Int.toNat_natCast, Bool.and_false]
              have hs : cntTo xs k (j + 1) = cntTo xs k j + 1 := by simp [cntTo, ha]
              have HS := Lib.hid hs
              clear hs
              go_wp2_with fail
              refine (specOrdersAgree_is _ xs _ _ hi _ (HV.out.drewN _) hb).mono ?_
              rintro e _ ⟨rfl, m4, rfl⟩
              go_wp2
              go_roundw
              case rel => exact ⟨j + 1, by omega, by go_num, by rw [HS.out]; go_num, by first | exact ⟨_, rfl⟩ | exact Q.more _ _⟩
              case measure => simp [intOf]; omega
          · obtain rfl : j = k := by omega
            go_wp2
            go_roundw
            case rel => exact ⟨j + 1, by omega, by go_num, by simp [pairsTo], by first | exact ⟨_, rfl⟩ | exact Q.more _ _⟩
            case measure => simp [intOf]; omega
      · obtain rfl : n = k := by omega
        go_wp2
        go_ret
        exact ⟨by simp [pairsI, h1, HL.out], _, rfl⟩

theorem implOrdersPairs_any (v : Value) (xs : List Int) (hi : Nat) (w : World) (hv : Sl w hi v xs) :
    Calls Try.prog 26 #[v] w fun e w' => e = .returned (.int .i64 (pairsI xs)) ∧ Q w w' := by
  have hv0 := hv
  obtain ⟨ad, n, cap, rfl, hl, hn, hcap, hcap2, hc⟩ := hv
  have HV := Lib.hid hv0
  have HL := Lib.hid hl
  clear hv0 hl hc
  cases h1 : ordB xs with
  | false =>
    go_enter Try.func26, Try.ntmps26
    go_wp2_with fail
    refine (implOrdersValid_is _ xs hi _ HV.out h1).mono ?_
    rintro e _ ⟨rfl, rfl⟩
    go_wp2
    go_ret
    exact ⟨by simp [pairsI, h1], Q.refl _⟩
  | true =>
    have h10 : n ≤ 10 := by have := (ordB_true.1 h1).1; rw [HL.out] at this; exact this
    go_enter Try.func26, Try.ntmps26
    go_wp2_with fail
    refine (implOrdersValid_is _ xs hi _ HV.out h1).mono ?_
    rintro e _ ⟨rfl, rfl⟩
    go_wp2
    go_loopw [3, 11] (fun c i wr => ∃ k : Nat, k ≤ n ∧ i = .int .i64 k ∧ c = .int .i64 (pairsTo xs k : Int) ∧ Q w wr) (fun _ i _ => n - (intOf i).toNat)
    case atStart => exact ⟨0, Nat.zero_le _, rfl, rfl, Q.refl _⟩
    case round =>
      obtain ⟨k, hk, rfl, rfl, m2, rfl⟩ := hrel
      have hp : pairsTo xs k ≤ 100 := by
        have := pairsTo_le xs k
        have : k * k ≤ 10 * 10 := Nat.mul_le_mul (by omega) (by omega)
        omega
      by_cases hlt : k < n
      · go_wp2
        go_loopw [3, 15] (fun c i wr => ∃ j : Nat, j ≤ k ∧ i = .int .i64 j ∧ c = .int .i64 ((pairsTo xs k : Int) + (cntTo xs k j : Int)) ∧ Q w wr) (fun _ i _ => k - (intOf i).toNat)
        case atStart => exact ⟨0, Nat.zero_le _, rfl, by simp [cntTo], _, rfl⟩
        case round =>
          obtain ⟨j, hj, rfl, rfl, m3, rfl⟩ := hrel
          have hcj : cntTo xs k j ≤ 10 := by have := cntTo_le xs k j; omega
          by_cases hjl : j < k
          · cases ha : agrB xs j k with
            | true =>
              have hs : cntTo xs k (j + 1) = cntTo xs k j := by simp [cntTo, ha]
              have HS := Lib.hid hs
              clear hs
              go_wp2_with fail
              refine (agree_is _ xs _ _ hi _ (HV.out.drewN _) (by rw [HL.out]; omega) (by rw [HL.out]; omega) ha).mono ?_
              rintro e _ ⟨rfl, m4, rfl⟩
              go_wp2
              go_roundw
              case rel => exact ⟨j + 1, by omega, by go_num, by rw [HS.out], by first | exact ⟨_, rfl⟩ | exact Q.more _ _⟩
              case measure => simp [intOf]; omega
            | false =>
              have hs : cntTo xs k (j + 1) = cntTo xs k j + 1 := by simp [cntTo, ha]
              have HS := Lib.hid hs
              clear hs
              go_wp2_with fail
              refine (agree_is _ xs _ _ hi _ (HV.out.drewN _) (by rw [HL.out]; omega) (by rw [HL.out]; omega) ha).mono ?_
              rintro e _ ⟨rfl, m4, rfl⟩
              go_wp2
              go_roundw
              case rel => exact ⟨j + 1, by omega, by go_num, by rw [HS.out]; go_num, by first | exact ⟨_, rfl⟩ | exact Q.more _ _⟩
              case measure => simp [intOf]; omega
          · obtain rfl : j = k := by omega
            go_wp2
            go_roundw
            case rel => exact ⟨j + 1, by omega, by go_num, by simp [pairsTo], by first | exact ⟨_, rfl⟩ | exact Q.more _ _⟩
            case measure => simp [intOf]; omega
      · obtain rfl : n = k := by omega
        go_wp2
        go_ret
        exact ⟨by simp [pairsI, h1, HL.out], _, rfl⟩

theorem specOrdersAgree_b (v : Value) (a b : Int) (xs : List Int) (hi : Nat) (w : World) (hv : Sl w hi v xs) (_ : -9223372036854775808 ≤ a ∧ a ≤ 9223372036854775807) (_ : -9223372036854775808 ≤ b ∧ b ≤ 9223372036854775807) :
    Calls Try.prog 23 #[v, .int .i64 a, .int .i64 b] w fun e w' => e = .returned (.bool (agreeB xs a b)) ∧ Below w.heap.size w w' :=
  (specOrdersAgree_any v xs a b hi w hv).mono fun _ _ ⟨he, hq⟩ => ⟨he, hq.below⟩
theorem implOrdersAgree_b (v : Value) (a b : Int) (xs : List Int) (hi : Nat) (w : World) (hv : Sl w hi v xs) (_ : -9223372036854775808 ≤ a ∧ a ≤ 9223372036854775807) (_ : -9223372036854775808 ≤ b ∧ b ≤ 9223372036854775807) :
    Calls Try.prog 24 #[v, .int .i64 a, .int .i64 b] w fun e w' => e = .returned (.bool (agreeB xs a b)) ∧ Below w.heap.size w w' :=
  (implOrdersAgree_any v xs a b hi w hv).mono fun _ _ ⟨he, hq⟩ => ⟨he, hq.below⟩
theorem specOrdersPairs_b (v : Value) (xs : List Int) (hi : Nat) (w : World) (hv : Sl w hi v xs) :
    Calls Try.prog 25 #[v] w fun e w' => e = .returned (.int .i64 (pairsI xs)) ∧ Below w.heap.size w w' :=
  (specOrdersPairs_any v xs hi w hv).mono fun _ _ ⟨he, hq⟩ => ⟨he, hq.below⟩
theorem implOrdersPairs_b (v : Value) (xs : List Int) (hi : Nat) (w : World) (hv : Sl w hi v xs) :
    Calls Try.prog 26 #[v] w fun e w' => e = .returned (.int .i64 (pairsI xs)) ∧ Below w.heap.size w w' :=
  (implOrdersPairs_any v xs hi w hv).mono fun _ _ ⟨he, hq⟩ => ⟨he, hq.below⟩

end Go.Proofs.Ytldjnfcdmhcjdaa
