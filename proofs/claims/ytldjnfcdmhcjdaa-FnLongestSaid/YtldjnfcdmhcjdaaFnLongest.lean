/- FnLongest: coils that do not agree are paid out as loaded. -/
import Derived.Test.YtldjnfcdmhcjdaaLawC
import Derived.Test.YtldjnfcdmhcjdaaDrDrop
import Derived.Test.YtldjnfcdmhcjdaaOrd2
import Derived.Test.YtldjnfcdmhcjdaaLongI
import Derived.Test.YtldjnfcdmhcjdaaSame
import Derived.Test.YtldjnfcdmhcjdaaHasInt
import Derived.Test.YtldjnfcdmhcjdaaLongLaw
namespace Go.Proofs.Ytldjnfcdmhcjdaa.fnLongest
open Go.ChangeShapes Go.WideShapes Go.ChangeAt Go.RowKit
set_option linter.unusedVariables false

theorem implAgree_is {r : Bool} (v : Value) (xs : List Int) (a b : Int) (hi : Nat) (w : World) (hv : Sl w hi v xs) (h : agreeB xs a b = r) :
    Calls Try.prog 24 #[v, .int .i64 a, .int .i64 b] w fun e w' => e = .returned (.bool r) ∧ Q w w' := h ▸ implOrdersAgree_any v xs a b hi w hv
theorem nil_eq {a b : Nat} (h : a = 0 ↔ b = 0) : (((a : Int) == 0) == ((b : Int) == 0)) = true := by
  by_cases ha : a = 0
  · have hb := h.1 ha; subst ha; subst hb; rfl
  · have hb : ¬ b = 0 := fun e => ha (h.2 e)
    have e1 : ((a : Int) == 0) = false := by rw [beq_eq_false_iff_ne]; omega
    have e2 : ((b : Int) == 0) = false := by rw [beq_eq_false_iff_ne]; omega
    rw [e1, e2]; rfl
theorem hasB_zero (xs o : List Int) (c : Nat) : hasB o (c : Int) = agrTo xs o c 0 := rfl

set_option maxHeartbeats 2000000 in
theorem walk (a0 : Option Addr) (len0 cap0 : Nat) (z0 : Unit) (w : World) (h0 : By w w.heap.size (.slice a0 len0 cap0) len0) :
    Calls Try.prog 15 #[.slice a0 len0 cap0] w fun e w' => e = .returned (.bool true) ∧ Below w.heap.size w w' := by
  by_cases hn : len0 ≤ 1048576
  · have hlt : decide ((1048576 : Int) < (len0 : Int)) = false := by simp; omega
    go_enter Try.func15, Try.ntmps15
    go_wp2_with fail
    refine (drawOrdersLongest_any _ len0 w.heap.size w h0 (Nat.le_refl _)).mono ?_
    rintro e w1 ⟨r, xs, rfl, b1, r1, hl⟩
    have S1 := Lib.hid r1.sl
    have B1 := Lib.hid b1
    clear r1 b1
    go_wp2_with fail
    refine (implOrdersLongest_b _ xs _ _ S1.out).mono ?_
    rintro e w2 ⟨r2, rfl, b2, o2⟩
    have S2 := Lib.hid (S1.out.old b2)
    have B2 := Lib.hid (nextB B1.out b2)
    have O2 := Lib.hid o2.sl
    clear S1 B1 b2 o2
    go_wp2_with fail
    refine (specOrdersLongest_b _ xs _ _ S2.out).mono ?_
    rintro e w3 ⟨r3, rfl, b3, o3⟩
    have S3 := Lib.hid (S2.out.old b3)
    have B3 := Lib.hid (nextB B2.out b3)
    have O3 := Lib.hid (O2.out.old b3)
    have P3 := Lib.hid o3.sl
    clear S2 B2 O2 b3 o3
    cases hok : ordB xs with
    | false =>
      go_wp2_with fail
      refine (sameInts_is (r := true) _ _ _ _ _ _ _ O3.out P3.out (by simp)).mono ?_
      rintro e _ ⟨rfl, d1, rfl⟩
      go_wp2_with fail
      refine (sameInts_is (r := true) _ _ _ _ _ _ _ (O3.out.drewN _) (P3.out.drewN _) (by simp)).mono ?_
      rintro e _ ⟨rfl, d2, rfl⟩
      go_wp2
      go_ret
      exact ⟨rfl, below_drewN B3.out _⟩
    | true =>
      have hlo := long_ok hok
      revert O3 P3 hlo
      generalize outLong xs = o
      intro O3 P3 hlo
      go_wp2_with fail
      refine (sameInts_is (r := true) _ _ _ _ _ _ _ O3.out P3.out (by simp)).mono ?_
      rintro e _ ⟨rfl, d1, rfl⟩
      replace S3 : Hid (Sl (w3.drewN d1) w1.heap.size r xs) := Lib.hid (S3.out.drewN _)
      replace O3 : Hid (Sl (w3.drewN d1) w2.heap.size r2 o) := Lib.hid (O3.out.drewN _)
      replace B3 : Hid (Below w.heap.size w (w3.drewN d1)) := Lib.hid (below_drewN B3.out _)
      clear P3
      revert S3 O3 B3
      generalize w3.drewN d1 = w4
      intro S3 O3 B3
      have s3 := S3.out
      have o3 := O3.out
      obtain ⟨ax, nx, cx, rfl, hlx, _, _, _, _⟩ := s3
      obtain ⟨ay, ny, cy, rfl, hly, _, _, _, hoc⟩ := o3
      have hnil := nil_eq hlo.nil
      rw [hlx, hly] at hnil
      have hle := hlo.le
      rw [hlx, hly] at hle
      rw [hlx] at hl
      have HOK := Lib.hid hok
      have HLO := Lib.hid hlo
      have HLX := Lib.hid hlx
      have HLY := Lib.hid hly
      have HOC := Lib.hid hoc
      have HNIL := Lib.hid hnil
      clear hok hlo hlx hly hoc hnil
      go_wp2
      go_loopw [8] (fun i wr => ∃ k : Nat, k ≤ ny ∧ i = .int .i64 k ∧ Q w4 wr) (fun i _ => ny - (intOf i).toNat)
      case atStart => exact ⟨0, Nat.zero_le _, rfl, Q.refl _⟩
      case round =>
        obtain ⟨k, hk, rfl, d, rfl⟩ := hrel
        by_cases hlt2 : k < ny
        · obtain ⟨b, off, rfl, hbh, hc⟩ := HOC.out (by omega)
          have hck := hc k hlt2
          go_wp2
          go_loopw [9] (fun i wr => ∃ j : Nat, j ≤ k ∧ i = .int .i64 j ∧ Q w4 wr) (fun i _ => k - (intOf i).toNat)
          case atStart => exact ⟨0, Nat.zero_le _, rfl, _, rfl⟩
          case round =>
            clear d
            obtain ⟨j, hj, rfl, d, rfl⟩ := hrel
            by_cases hlt3 : j < k
            · have hcj := hc j (by omega)
              have hup := (HLO.out.up j k hlt3 (by rw [HLY.out]; exact hlt2)).1
              have hag := long_not HLO.out hlt3 (by rw [HLY.out]; exact hlt2)
              have hge : decide (gi o k ≤ gi o j) = false := by simp; omega
              clear hc
              go_wp2
              go_quiet ((go_at_call 24; exact quietQ' (implAgree_is _ xs _ _ _ _ (S3.out.drewN _) hag)))
              go_wp2
              go_roundw
              case rel => exact ⟨j + 1, by omega, by go_num, by first | exact ⟨_, rfl⟩ | exact Q.more _ _⟩
              case measure => simp [intOf]; omega
            · obtain rfl : k = j := by omega
              go_wp2
              go_roundw
              case rel => exact ⟨k + 1, by omega, by go_num, _, rfl⟩
              case measure => simp [intOf]; omega
        · obtain rfl : ny = k := by omega
          go_wp2
          go_loopw [10] (fun i wr => ∃ c : Nat, c ≤ nx ∧ i = .int .i64 c ∧ Q w4 wr) (fun i _ => nx - (intOf i).toNat)
          case atStart => exact ⟨0, Nat.zero_le _, rfl, _, rfl⟩
          case round =>
            clear d
            obtain ⟨c, hc, rfl, d, rfl⟩ := hrel
            by_cases hlt3 : c < nx
            · go_wp2_with fail
              refine (hasInt_any _ o (c : Int) _ _ (O3.out.drewN _)).mono ?_
              rintro e _ ⟨rfl, rfl⟩
              have hall := long_all HOK.out HLO.out (c := c) (by rw [HLX.out]; exact hlt3)
              rw [HLY.out] at hall
              have HALL := Lib.hid hall
              clear hall
              rw [hasB_zero xs o c]
              go_wp2
              go_loopw [11, 12] (fun g i wr => ∃ j : Nat, j ≤ ny ∧ i = .int .i64 j ∧ g = .bool (agrTo xs o c j) ∧ Q w4 wr) (fun _ i _ => ny - (intOf i).toNat)
              case atStart => exact ⟨0, Nat.zero_le _, rfl, rfl, _, rfl⟩
              case round =>
                clear d
                obtain ⟨j, hj, rfl, rfl, d, rfl⟩ := hrel
                by_cases hlt4 : j < ny
                · obtain ⟨b, off, rfl, hbh, hc⟩ := HOC.out (by omega)
                  have hcj := hc j hlt4
                  clear hc
                  have hs : agrTo xs o c (j + 1) = (agrTo xs o c j || agreeB xs c (gi o j)) := rfl
                  have HS := Lib.hid hs
                  clear hs
                  cases hg : agrTo xs o c j with
                  | true =>
                    go_wp2
                    go_roundw
                    case rel => exact ⟨j + 1, by omega, by go_num, by rw [HS.out, hg]; rfl, _, rfl⟩
                    case measure => simp [intOf]; omega
                  | false =>
                    go_wp2_with fail
                    refine (implOrdersAgree_any _ xs (c : Int) (gi o j) _ _ (S3.out.drewN _)).mono ?_
                    rintro e _ ⟨rfl, d2, rfl⟩
                    go_wp2
                    go_roundw
                    case rel => exact ⟨j + 1, by omega, by go_num, by rw [HS.out, hg]; rfl, by first | exact ⟨_, rfl⟩ | exact Q.more _ _⟩
                    case measure => simp [intOf]; omega
                · obtain rfl : ny = j := by omega
                  have hall := HALL.out
                  go_wp2
                  go_roundw
                  case rel => exact ⟨c + 1, by omega, by go_num, _, rfl⟩
                  case measure => simp [intOf]; omega
            · obtain rfl : nx = c := by omega
              have hnil := HNIL.out
              go_wp2
              go_ret
              exact ⟨rfl, below_drewN B3.out _⟩
  · have hlt : decide ((1048576 : Int) < (len0 : Int)) = true := by simp; omega
    go_enter Try.func15, Try.ntmps15
    go_wp2
    go_ret
    exact ⟨rfl, Below.refl _ _⟩

set_option maxRecDepth 100000 in
theorem lifted (os : Os) (started : os.Started) (H : Type) (enc : TypeId × Value → H) :
    ReturnsInHanded {} Try.checked os 15 .any (Rows.fnLongestSpec.pre6 enc Try.prog Try.f15 Rows.fnLongestRow.domain false) (Rows.fnLongestSpec.post enc Try.prog Try.f15 false true false false) := by
  refine returnsInHanded_of_change (C := Try.checked) own started (by kernel_rfl) Try.func15
    (ChangeSpec.witness6 (enc := enc) (C := Try.checked) false ⟨#[], #[.slice none 0 0], []⟩ 8 (by kernel_rfl) (by kernel_rfl) (by kernel_rfl) (by kernel_rfl)) ?_
  intro W base args ds gs before hval0 hW hcnd _
  have hval : ∀ (j : Nat) t v, Try.f15.params[j]? = some t → args[j]? = some v → Value.okWide Try.prog W .any base t v := hval0
  have hW' := hW
  obtain ⟨p, q, hA0, hV, rfl, hfz, hnd⟩ := hW
  have hA : DataW.TrodAll enc Try.prog W 0 (fun _ => true) true Try.f15.params.toList args.toList ds p := hA0
  rw [Try.params15] at hA hval
  obtain ⟨v0, vs0, d0, ds0, p0, q0, hargs, rfl, rfl, h0, r0⟩ := trodAll_cons hA
  obtain ⟨rfl, rfl, rfl⟩ := trodAll_nil r0
  obtain rfl : args = #[v0] := by cases args; simp_all
  obtain ⟨rfl, rfl⟩ := trodVars_none hV
  obtain ⟨a0, len0, cap0, rfl⟩ := okWide_slice Try.underlying33 (hval 0 33 v0 rfl rfl)
  have k0 := h0
  have lt0 : ∀ x ∈ p0, x.block < W.heap.size := by obtain ⟨m, hm⟩ := k0; exact DataW.trod_lt m _ _ _ hm
  obtain ⟨z0, w0⟩ := by0_of h0
  clear hA0 hval0
  refine (walk a0 len0 cap0 z0 W w0).mono fun e W' ⟨he, bel⟩ => ?_
  subst he
  exact ⟨_, rfl, _, _, _, [], _, [], hW', trodAll_mk1 (shut_bool Try.underlying4 _), (trodAll_cons_mk (Below.trod laidOut (by kernel_rfl) (of_decide_eq_true (by kernel_rfl)) k0 bel lt0) trodAll_mk0), rfl, bel.frame _, fun h => by cases h⟩

theorem over : Rows.fnLongestRow.holds Try.pinned (OpenSpec.ofChange Rows.fnLongestSpec) :=
  OpenClaim.holds_of_wide 15 Try.f15 rfl rfl rfl rfl rfl rfl rfl ⟨rfl, rfl, rfl, rfl, rfl⟩ rfl rfl rfl rfl rfl (by kernel_rfl) Try.func15 (facts_of signs (by kernel_rfl))
    (of_decide_eq_true (by kernel_rfl)) (by unfold Func.isWrapper; first | (rw [if_pos (by decide +kernel)]; kernel_rfl) | (rw [if_neg (by decide +kernel)]; exact ⟨rfl, rfl⟩))
    (fun os started H enc _ => lifted os started H enc)

theorem proved : Rows.FnLongestSaid := over
#print axioms proved

end Go.Proofs.Ytldjnfcdmhcjdaa.fnLongest
