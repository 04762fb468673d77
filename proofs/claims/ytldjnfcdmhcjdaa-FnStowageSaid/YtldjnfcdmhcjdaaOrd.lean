/- Contracts: OrdersValid of the program and of the reference; agree, OrdersAgree, OrdersPairs. -/
import Derived.Test.YtldjnfcdmhcjdaaInts
import Derived.Test.YtldjnfcdmhcjdaaOrdPlain
import Derived.Test.YtldjnfcdmhcjdaaBits
namespace Go.Proofs.Ytldjnfcdmhcjdaa
open Go.RowKit

/-- A slice cut at its first k. -/
theorem Sl.cut {w : World} {hi : Nat} {a : Option Addr} {n cap : Nat} {xs : List Int} (h : Sl w hi (.slice a n cap) xs) {k : Nat} (hk : k ≤ n) : Sl w hi (.slice a k cap) (xs.take k) := by
  obtain ⟨a', n', cap', he, h1, h2, h3, h4, h5⟩ := h
  cases he
  refine ⟨a, k, cap, rfl, by simp; omega, by omega, by omega, h4, fun hn => ?_⟩
  obtain ⟨b, off, rfl, hb, hc⟩ := h5 (by omega)
  refine ⟨b, off, rfl, hb, fun j hj => ?_⟩
  rw [hc j (by omega)]
  simp [gi, hj]

theorem hasB_take_no {xs : List Int} {k : Nat} {x : Int} (hk : k ≤ xs.length) (h : ∀ j, j < k → ¬ gi xs j = x) : hasB (xs.take k) x = false :=
  hasB_no (n := k) (by simp; omega) fun j hj => by
    have : gi (xs.take k) j = gi xs j := by simp [gi, hj]
    rw [this]; exact h j hj

theorem hasB_take_yes {xs : List Int} {k j : Nat} {x : Int} (hk : k ≤ xs.length) (hj : j < k) (h : gi xs j = x) : hasB (xs.take k) x = true :=
  hasB_yes (n := k) (k := j) (by simp; omega) hj (by
    have : gi (xs.take k) j = gi xs j := by simp [gi, hj]
    rw [this]; exact h)

theorem specOrdersValid_any (v : Value) (xs : List Int) (hi : Nat) (w : World) (hv : Sl w hi v xs) :
    Calls Try.prog 19 #[v] w fun e w' => e = .returned (.bool (ordB xs)) ∧ Q w w' := by
  have hv0 := hv
  obtain ⟨a, n, cap, rfl, hl, hn, hcap, hcap2, hc⟩ := hv
  have HL := Lib.hid hl
  clear hl
  have HV := Lib.hid hv0
  clear hv0
  have hw1 : IntKind.i64.wrap ((n : Int) - 1) = (n : Int) - 1 := IntWalk.i64_in _ (by omega)
  have HW1 := Lib.hid hw1
  clear hw1
  go_enter Try.func19, Try.ntmps19
  go_wp2
  go_loopw [3] (fun i wr => ∃ k : Nat, k ≤ n ∧ i = .int .i64 k ∧ Q w wr ∧ Hid (ordTo xs k)) (fun i _ => n - (intOf i).toNat)
  case atStart => exact ⟨0, Nat.zero_le _, rfl, ⟨0, rfl⟩, ordTo_zero xs⟩
  case round =>
    obtain ⟨k, hk, rfl, ⟨d, rfl⟩, hno⟩ := hrel
    by_cases hlt : k < n
    · obtain ⟨b, off, rfl, hbh, hc⟩ := hc (by omega)
      have hcell := hc k hlt
      clear hc
      have hw1 := HW1.out
      cases hin : inB (gi xs k) 0 ((n : Int) - 1) with
      | false =>
        go_wp2
        go_quiet ((go_at_call 52; exact quietS' (l6In_is _ _ _ _ hin)))
        clear hw1
        go_wp2
        go_ret
        exact ⟨by rw [ordB_no_at (by rw [HL.out]; exact hlt) (fun h => by
          rw [HL.out] at h
          simp [inB] at hin
          omega)]; rfl, by first | exact ⟨_, rfl⟩ | exact Q.more _ _⟩
      | true =>
        cases hh : hasB (xs.take k) (gi xs k) with
        | true =>
          go_wp2
          go_quiet (first | ((go_at_call 52; exact quietS' (l6In_is _ _ _ _ hin))) | ((go_at_call 53; exact quietS' (l4Has_is _ _ _ hi _ ((HV.out.cut hk).drewN _) hh))))
          clear hw1
          go_wp2
          go_ret
          exact ⟨by rw [ordB_no_at (by rw [HL.out]; exact hlt) (fun h => by
            rw [hasB_take_no (by rw [HL.out]; exact hk) h.2] at hh
            cases hh)]; rfl, by first | exact ⟨_, rfl⟩ | exact Q.more _ _⟩
        | false =>
          go_wp2
          go_quiet (first | ((go_at_call 52; exact quietS' (l6In_is _ _ _ _ hin))) | ((go_at_call 53; exact quietS' (l4Has_is _ _ _ hi _ ((HV.out.cut hk).drewN _) hh))))
          clear hw1
          go_wp2
          go_roundw
          case rel =>
            have hin' := inB_true.1 hin
            exact ⟨k + 1, by omega, by go_num, (by first | exact ⟨_, rfl⟩ | exact Q.more _ _), ordTo_succ hno.out hin'.1 (by rw [HL.out]; omega) (fun j hj e => by
              rw [hasB_take_yes (by rw [HL.out]; exact hk) hj e] at hh
              cases hh)⟩
          case measure => simp [intOf]; omega
    · obtain rfl : n = k := by omega
      go_wp2
      go_ret
      refine ⟨?_, ⟨d, rfl⟩⟩
      have h2 := hno.out
      have : ordB xs = decide (n ≤ 10) := by
        simp only [ordB, HL.out, h2, and_true]
      rw [this]
      simp
      omega

theorem specOrdersValid_is {r : Bool} (v : Value) (xs : List Int) (hi : Nat) (w : World) (hv : Sl w hi v xs) (h : ordB xs = r) :
    Calls Try.prog 19 #[v] w fun e w' => e = .returned (.bool r) ∧ Q w w' := h ▸ specOrdersValid_any v xs hi w hv

/-- The set m holds the first k numbers. -/
def maskTo (xs : List Int) (k m : Nat) : Prop := ∀ t : Nat, m.testBit t = true ↔ ∃ j, j < k ∧ gi xs j = (t : Int)

theorem maskTo_zero (xs : List Int) : maskTo xs 0 0 := fun t => by simp

theorem maskTo_succ {xs : List Int} {k m : Nat} (h : maskTo xs k m) (h0 : 0 ≤ gi xs k) : maskTo xs (k + 1) (m ||| 2 ^ (gi xs k).toNat) := fun t => by
  rw [bit_mem, Bool.or_eq_true, h t, decide_eq_true_eq]
  constructor
  · rintro (⟨j, hj, e⟩ | e)
    · exact ⟨j, by omega, e⟩
    · exact ⟨k, by omega, by omega⟩
  · rintro ⟨j, hj, e⟩
    by_cases hjk : j = k
    · subst hjk; right; omega
    · left; exact ⟨j, by omega, e⟩

theorem permutation_any (v : Value) (xs : List Int) (hi : Nat) (w : World) (hv : Sl w hi v xs) (h10 : xs.length ≤ 10) :
    Calls Try.prog 54 #[v] w fun e w' => e = .returned (.bool (ordB xs)) ∧ w = w' := by
  obtain ⟨a, n, cap, rfl, hl, hn, hcap, hcap2, hc⟩ := hv
  rw [hl] at h10
  have HL := Lib.hid hl
  clear hl
  go_enter Try.func54, Try.ntmps54
  go_wp2
  go_loop [3, 8] (fun s i => ∃ k m : Nat, k ≤ n ∧ i = .int .i64 k ∧ s = .int .i64 m ∧ m < 1024 ∧ Hid (ordTo xs k) ∧ Hid (maskTo xs k m)) (fun _ i => n - (intOf i).toNat)
  case atStart => exact ⟨0, 0, Nat.zero_le _, rfl, rfl, by omega, ordTo_zero xs, maskTo_zero xs⟩
  case round =>
    obtain ⟨k, m, hk, rfl, rfl, hm, hno, hmask⟩ := hrel
    by_cases hlt : k < n
    · obtain ⟨b, off, rfl, hbh, hc⟩ := hc (by omega)
      have hcell := hc k hlt
      clear hc
      cases hin : inB (gi xs k) 0 ((n : Int) - 1) with
      | false =>
        go_wp2_with (go_at_call 55; refine (within_is _ _ _ _ hin).mono ?_; rintro e w' ⟨rfl, rfl⟩)
        go_ret
        exact ⟨by rw [ordB_no_at (by rw [HL.out]; exact hlt) (fun h => by
          rw [HL.out] at h
          simp [inB] at hin
          omega)]; rfl, rfl⟩
      | true =>
        have hb1 : 0 ≤ gi xs k := (inB_true.1 hin).1
        have hb2 : gi xs k ≤ 9 := by have := (inB_true.1 hin).2; omega
        go_wp2_with (go_at_call 55; refine (within_is _ _ _ _ hin).mono ?_; rintro e w' ⟨rfl, rfl⟩)
        · have ht : (bits BinOp.and IntKind.i64 (↑m / 2 ^ (gi xs k).toNat) 1 == 1) = true := by assumption
          rw [bit_test _ _ hm] at ht
          obtain ⟨j, hj, e⟩ := (hmask.out _).1 ht
          go_ret
          exact ⟨by rw [ordB_no_at (by rw [HL.out]; exact hlt) (fun h => h.2 j hj (by omega))]; rfl, rfl⟩
        · have ht : (bits BinOp.and IntKind.i64 (↑m / 2 ^ (gi xs k).toNat) 1 == 1) = false := by assumption
          rw [bit_test _ _ hm] at ht
          have hs := bit_set m (gi xs k).toNat hm (by omega)
          go_round
          case rel =>
            exact ⟨k + 1, _, by omega, by go_num, by rw [hs.1], hs.2, ordTo_succ hno.out hb1 (by rw [HL.out]; have := (inB_true.1 hin).2; omega) (fun j hj e => by
              have := (hmask.out (gi xs k).toNat).2 ⟨j, hj, by omega⟩
              rw [ht] at this
              cases this), maskTo_succ hmask.out hb1⟩
          case measure => simp [intOf]; omega
    · obtain rfl : n = k := by omega
      go_wp2
      go_ret
      refine ⟨?_, rfl⟩
      have h2 := hno.out
      have : ordB xs = true := by
        simp only [ordB, HL.out, h2, and_true, decide_eq_true_eq]
        exact h10
      rw [this]; rfl

theorem implOrdersValid_any (v : Value) (xs : List Int) (hi : Nat) (w : World) (hv : Sl w hi v xs) :
    Calls Try.prog 21 #[v] w fun e w' => e = .returned (.bool (ordB xs)) ∧ w = w' := by
  have hv0 := hv
  obtain ⟨a, n, cap, rfl, hl, hn, hcap, hcap2, hc⟩ := hv
  have HV := Lib.hid hv0
  clear hc hv0
  by_cases h10 : n ≤ 10
  · go_enter Try.func21, Try.ntmps21
    have HL := Lib.hid hl
    clear hl
    go_wp2_with (go_at_call 54; refine (permutation_any _ _ _ _ HV.out (by rw [HL.out]; exact h10)).mono ?_; rintro e w' ⟨rfl, rfl⟩)
    go_ret
    exact ⟨rfl, rfl⟩
  · go_enter Try.func21, Try.ntmps21
    have HL := Lib.hid hl
    clear hl
    go_wp2
    go_ret
    exact ⟨by rw [ordB_no_long (by rw [HL.out]; omega)]; rfl, rfl⟩

theorem implOrdersValid_is {r : Bool} (v : Value) (xs : List Int) (hi : Nat) (w : World) (hv : Sl w hi v xs) (h : ordB xs = r) :
    Calls Try.prog 21 #[v] w fun e w' => e = .returned (.bool r) ∧ w = w' := h ▸ implOrdersValid_any v xs hi w hv

theorem specOrdersValid_b (v : Value) (xs : List Int) (hi : Nat) (w : World) (hv : Sl w hi v xs) :
    Calls Try.prog 19 #[v] w fun e w' => e = .returned (.bool (ordB xs)) ∧ Below w.heap.size w w' :=
  (specOrdersValid_any v xs hi w hv).mono fun _ _ ⟨he, hq⟩ => ⟨he, hq.below⟩
theorem implOrdersValid_b (v : Value) (xs : List Int) (hi : Nat) (w : World) (hv : Sl w hi v xs) :
    Calls Try.prog 21 #[v] w fun e w' => e = .returned (.bool (ordB xs)) ∧ Below w.heap.size w w' :=
  (implOrdersValid_any v xs hi w hv).mono fun _ _ ⟨he, hq⟩ => ⟨he, hq ▸ Below.refl _ _⟩

end Go.Proofs.Ytldjnfcdmhcjdaa
