/- Contract: StowageValid of the reference. -/
import Derived.Test.YtldjnfcdmhcjdaaOrd2
import Derived.Test.YtldjnfcdmhcjdaaStowPlain
namespace Go.Proofs.Ytldjnfcdmhcjdaa
open Go.RowKit

theorem specStowageValid_any (v0 v1 : Value) (xs ts : List Int) (hi0 hi1 : Nat) (w : World) (hv0 : Sl w hi0 v0 xs) (hv1 : Sl w hi1 v1 ts) :
    Calls Try.prog 33 #[v0, v1] w fun e w' => e = .returned (.bool (stowB xs ts)) ∧ Q w w' := by
  have hv0' := hv0
  obtain ⟨ad, n, cap, rfl, hl, hn, hcap, hcap2, hc⟩ := hv0
  obtain ⟨ad2, m, cap3, rfl, hl2, hn2, hcap3, hcap4, hc2⟩ := hv1
  have HV := Lib.hid hv0'
  have HL := Lib.hid hl
  have HL2 := Lib.hid hl2
  clear hv0' hl hl2 hc
  cases h1 : ordB xs with
  | false =>
    go_enter Try.func33, Try.ntmps33
    go_wp2_with fail
    refine (specOrdersValid_is _ xs _ _ HV.out h1).mono ?_
    rintro e _ ⟨rfl, d, rfl⟩
    go_wp2
    go_ret
    exact ⟨by simp [stowB, h1], _, rfl⟩
  | true =>
    by_cases hnm : m = n
    · subst hnm
      have hinB : ∀ i j, i < m → j < i → agreeB xs (i : Int) (j : Int) = decide (gi xs i < gi xs j) := by
        intro i j hi hj
        have hne := ordB_ne h1 (i := j) (j := i) (by rw [HL.out]; omega) (by rw [HL.out]; omega) (by omega)
        have e1 : inB (i : Int) 0 ((m : Int) - 1) = true := inB_true.2 ⟨by omega, by omega⟩
        have e2 : inB (j : Int) 0 ((m : Int) - 1) = true := inB_true.2 ⟨by omega, by omega⟩
        have e3 : ((i : Int) != (j : Int)) = true := by simp; omega
        simp only [agreeB, h1, HL.out, e1, e2, e3, Bool.true_and, Int.toNat_natCast, agrB]
        have e4 : decide (i < j) = false := by simp; omega
        rw [e4]
        by_cases hh : gi xs j < gi xs i
        · have : ¬ gi xs i < gi xs j := by omega
          simp [hh, this]
        · have : gi xs i < gi xs j := by omega
          simp [hh, this]
      have HIN := Lib.hid hinB
      clear hinB
      go_enter Try.func33, Try.ntmps33
      go_wp2_with fail
      refine (specOrdersValid_is _ xs _ _ HV.out h1).mono ?_
      rintro e _ ⟨rfl, d, rfl⟩
      go_wp2
      go_loopw [5] (fun i wr => ∃ k : Nat, k ≤ m ∧ i = .int .i64 k ∧ Q w wr ∧ Hid (stowTo xs ts k)) (fun i _ => m - (intOf i).toNat)
      case atStart => exact ⟨0, Nat.zero_le _, rfl, ⟨_, rfl⟩, stowTo_zero xs ts⟩
      case round =>
        obtain ⟨k, hk, rfl, ⟨d2, rfl⟩, hno⟩ := hrel
        by_cases hlt : k < m
        · obtain ⟨b, off, rfl, hbh, hc2⟩ := hc2 (by omega)
          have hck := hc2 k hlt
          have HC2 := Lib.hid hc2
          clear hc2
          cases hin : inB (gi ts k) 0 4 with
          | false =>
            go_wp2_with (go_at_call 52; refine (l6In_is _ _ _ _ hin).mono ?_; rintro e w' ⟨rfl, rfl⟩)
            go_ret
            exact ⟨by rw [stowB_no_at (k := k) (by rw [HL2.out]; exact hlt) (fun h => by rw [inB_true.2 h.1] at hin; cases hin)]; rfl, _, rfl⟩
          | true =>
            go_wp2_with (go_at_call 52; refine (l6In_is _ _ _ _ hin).mono ?_; rintro e w' ⟨rfl, rfl⟩)
            go_loopw [6] (fun i wr => ∃ j : Nat, j ≤ k ∧ i = .int .i64 j ∧ Q w wr ∧ Hid (∀ t, t < j → gi ts k = gi ts t → gi xs k < gi xs t)) (fun i _ => k - (intOf i).toNat)
            case atStart => exact ⟨0, Nat.zero_le _, rfl, ⟨_, rfl⟩, fun j hj => absurd hj (by omega)⟩
            case round =>
              obtain ⟨j, hj, rfl, ⟨d3, rfl⟩, hno2⟩ := hrel
              by_cases hjl : j < k
              · have hcj := HC2.out j (by omega)
                have hag := HIN.out k j hlt hjl
                by_cases heq : gi ts k = gi ts j
                · have hb : (gi ts k == gi ts j) = true := by simp [heq]
                  have HE := Lib.hid heq
                  clear heq
                  cases hlt2 : decide (gi xs k < gi xs j) with
                  | false =>
                    rw [hlt2] at hag
                    have HA := Lib.hid hag
                    have HD := Lib.hid hlt2
                    clear hag hlt2
                    go_wp2
                    go_quiet ((go_at_call 23; exact quietQ' (specOrdersAgree_is _ xs _ _ _ _ (HV.out.drewN _) HA.out)))
                    go_wp2
                    go_ret
                    exact ⟨by rw [stowB_no_at (k := k) (by rw [HL2.out]; exact hlt) (fun h => by have := h.2 j hjl HE.out; have hd := HD.out; simp at hd; omega)]; rfl, by first | exact ⟨_, rfl⟩ | exact Q.more _ _⟩
                  | true =>
                    rw [hlt2] at hag
                    have HA := Lib.hid hag
                    have HD := Lib.hid hlt2
                    clear hag hlt2
                    go_wp2
                    go_quiet ((go_at_call 23; exact quietQ' (specOrdersAgree_is _ xs _ _ _ _ (HV.out.drewN _) HA.out)))
                    go_wp2
                    go_roundw
                    case rel => exact ⟨j + 1, by omega, by go_num, (by first | exact ⟨_, rfl⟩ | exact Q.more _ _), fun t ht het => by
                      by_cases htj : t = j
                      · subst htj; exact of_decide_eq_true HD.out
                      · exact hno2.out t (by omega) het⟩
                    case measure => simp [intOf]; omega
                · have hb : (gi ts k == gi ts j) = false := by simp [heq]
                  have HE := Lib.hid heq
                  clear heq hag
                  go_wp2
                  go_quiet (fail)
                  go_wp2
                  go_roundw
                  case rel => exact ⟨j + 1, by omega, by go_num, (by first | exact ⟨_, rfl⟩ | exact Q.more _ _), fun t ht het => by
                    by_cases htj : t = j
                    · subst htj; exact absurd het HE.out
                    · exact hno2.out t (by omega) het⟩
                  case measure => simp [intOf]; omega
              · obtain rfl : j = k := by omega
                go_wp2
                go_roundw
                case rel => exact ⟨j + 1, by omega, by go_num, (by first | exact ⟨_, rfl⟩ | exact Q.more _ _), stowTo_succ hno.out (inB_true.1 hin) hno2.out⟩
                case measure => simp [intOf]; omega
        · obtain rfl : m = k := by omega
          go_wp2
          go_ret
          exact ⟨by rw [stowB_true.2 ⟨h1, by rw [HL.out, HL2.out], by rw [HL2.out]; exact hno.out⟩]; rfl, _, rfl⟩
    · have hb : ((m : Int) != (n : Int)) = true := by simp; omega
      go_enter Try.func33, Try.ntmps33
      go_wp2_with fail
      refine (specOrdersValid_is _ xs _ _ HV.out h1).mono ?_
      rintro e _ ⟨rfl, d, rfl⟩
      go_wp2
      go_ret
      exact ⟨by simp [stowB, HL.out, HL2.out, hnm], _, rfl⟩

theorem specStowageValid_is {r : Bool} (v0 v1 : Value) (xs ts : List Int) (hi0 hi1 : Nat) (w : World) (hv0 : Sl w hi0 v0 xs) (hv1 : Sl w hi1 v1 ts) (h : stowB xs ts = r) :
    Calls Try.prog 33 #[v0, v1] w fun e w' => e = .returned (.bool r) ∧ Q w w' := h ▸ specStowageValid_any v0 v1 xs ts hi0 hi1 w hv0 hv1

theorem specStowageValid_b (v0 v1 : Value) (xs ts : List Int) (hi0 hi1 : Nat) (w : World) (hv0 : Sl w hi0 v0 xs) (hv1 : Sl w hi1 v1 ts) :
    Calls Try.prog 33 #[v0, v1] w fun e w' => e = .returned (.bool (stowB xs ts)) ∧ Below w.heap.size w w' :=
  (specStowageValid_any v0 v1 xs ts hi0 hi1 w hv0 hv1).mono fun _ _ ⟨he, hq⟩ => ⟨he, hq.below⟩

end Go.Proofs.Ytldjnfcdmhcjdaa
