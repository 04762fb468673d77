/- FnDrop: other coils agree as before. -/
import Derived.Test.YtldjnfcdmhcjdaaLawC
import Derived.Test.YtldjnfcdmhcjdaaDrDrop
import Derived.Test.YtldjnfcdmhcjdaaOrd2
import Derived.Test.YtldjnfcdmhcjdaaOrd3
import Derived.Test.YtldjnfcdmhcjdaaSame
import Derived.Test.YtldjnfcdmhcjdaaDropPlain
namespace Go.Proofs.Ytldjnfcdmhcjdaa.fnDrop
open Go.ChangeShapes Go.WideShapes Go.ChangeAt Go.RowKit
set_option linter.unusedVariables false

theorem implAgree_is {r : Bool} (v : Value) (xs : List Int) (a b : Int) (hi : Nat) (w : World) (hv : Sl w hi v xs) (h : agreeB xs a b = r) :
    Calls Try.prog 24 #[v, .int .i64 a, .int .i64 b] w fun e w' => e = .returned (.bool r) ∧ Q w w' := h ▸ implOrdersAgree_any v xs a b hi w hv

theorem nn_eq {ny nx : Nat} (h : ny = nx - 1) (h0 : 0 < nx) : ((ny : Int) == (nx : Int) - 1) = true := by rw [beq_iff_eq]; omega
theorem nn_wrap {nx : Nat} (h : nx ≤ 13) : IntKind.i64.wrap ((nx : Int) - 1) = (nx : Int) - 1 := IntWalk.i64_in _ (by omega)
theorem neS (r : Bool) : (r != r) = false := by simp

set_option maxHeartbeats 2000000 in
theorem walk (a0 : Option Addr) (len0 cap0 : Nat) (z0 : Unit) (w : World) (h0 : By w w.heap.size (.slice a0 len0 cap0) len0) :
    Calls Try.prog 11 #[.slice a0 len0 cap0] w fun e w' => e = .returned (.bool true) ∧ Below w.heap.size w w' := by
  by_cases hn : len0 ≤ 1048576
  · have hlt : decide ((1048576 : Int) < (len0 : Int)) = false := by simp; omega
    go_enter Try.func11, Try.ntmps11
    go_wp2_with fail
    refine (drawOrdersDrop_any _ len0 w.heap.size w h0 (Nat.le_refl _)).mono ?_
    rintro e w1 ⟨r, xs, A, rfl, b1, r1, hl, hA⟩
    have S1 := Lib.hid r1.sl
    have B1 := Lib.hid b1
    clear r1 b1
    go_wp2_with fail
    refine (implOrdersDrop_b _ A xs _ _ S1.out (by omega)).mono ?_
    rintro e w2 ⟨r2, rfl, b2, o2⟩
    have S2 := Lib.hid (S1.out.old b2)
    have B2 := Lib.hid (nextB B1.out b2)
    have O2 := Lib.hid o2.sl
    clear S1 B1 b2 o2
    go_wp2_with fail
    refine (specOrdersDrop_b _ A xs _ _ S2.out (by omega)).mono ?_
    rintro e w3 ⟨r3, rfl, b3, o3⟩
    have S3 := Lib.hid (S2.out.old b3)
    have B3 := Lib.hid (nextB B2.out b3)
    have O3 := Lib.hid (O2.out.old b3)
    have P3 := Lib.hid o3.sl
    clear S2 B2 O2 b3 o3
    cases hok : okDrop xs A with
    | false =>
      go_wp2_with fail
      refine (sameInts_is (r := true) _ _ _ _ _ _ _ O3.out P3.out (by simp)).mono ?_
      rintro e _ ⟨rfl, d1, rfl⟩
      go_wp2_with fail
      refine (sameInts_is (r := true) _ _ _ _ _ _ _ (O3.out.drewN _) (P3.out.drewN _) (by simp)).mono ?_
      rintro e _ ⟨rfl, d2, rfl⟩
      go_wp2
      go_ret
      exact ⟨rfl, below_drewN B3.out _⟩
    | true =>
      have ho : outDrop xs A = dropTo xs A.toNat xs.length := by simp [outDrop, hok]
      have hk := hok
      simp only [okDrop, Bool.and_eq_true, inB_true] at hk
      obtain ⟨hord, hin⟩ := hk
      obtain ⟨I, rfl⟩ := Int.eq_ofNat_of_zero_le hin.1
      have hI : I < xs.length := by omega
      simp only [Int.toNat_natCast] at ho
      rw [ho] at O3 P3
      have hord2 := drop_ord hord hI
      have hlen2 := drop_len hI
      have hag := fun (a b : Nat) (ha : a < xs.length - 1) (hb : b < a) => drop_agree hord hI ha hb
      revert O3 P3 hord2 hlen2 hag
      generalize dropTo xs I xs.length = ys
      intro O3 P3 hord2 hlen2 hag
      have HAG := Lib.hid hag
      have HORD := Lib.hid hord2
      clear hag hord2 ho hin
      go_wp2_with fail
      refine (sameInts_is (r := true) _ _ _ _ _ _ _ O3.out P3.out (by simp)).mono ?_
      rintro e _ ⟨rfl, d1, rfl⟩
      replace S3 : Hid (Sl (w3.drewN d1) w1.heap.size r xs) := Lib.hid (S3.out.drewN _)
      replace O3 : Hid (Sl (w3.drewN d1) w2.heap.size r2 ys) := Lib.hid (O3.out.drewN _)
      replace B3 : Hid (Below w.heap.size w (w3.drewN d1)) := Lib.hid (below_drewN B3.out _)
      clear P3
      revert S3 O3 B3
      generalize w3.drewN d1 = w4
      intro S3 O3 B3
      have s3 := S3.out
      have o3 := O3.out
      obtain ⟨ax, nx, cx, rfl, hlx, _, _, _, _⟩ := s3
      obtain ⟨ay, ny, cy, rfl, hly, _, _, _, _⟩ := o3
      rw [hlx] at hI hlen2 hl
      rw [hly] at hlen2
      have HAG' : Hid (∀ a b : Nat, a < nx - 1 → b < a → agreeB ys a b = agreeB xs (skp I a) (skp I b)) := Lib.hid (fun a b h1 h2 => HAG.out a b (by rw [hlx]; exact h1) h2)
      have HLX := Lib.hid hlx
      have HLY := Lib.hid hly
      clear HAG hlx hly
      have hnn := nn_eq hlen2 (Nat.zero_lt_of_lt hI)
      have hw1 := nn_wrap hl
      have hnx : ny ≤ nx - 1 := Nat.le_of_eq hlen2
      have hny : nx - 1 ≤ ny := Nat.le_of_eq hlen2.symm
      clear hlen2
      go_wp2
      go_loopw [9] (fun i wr => ∃ k : Nat, k ≤ ny ∧ i = .int .i64 k ∧ Q w4 wr) (fun i _ => ny - (intOf i).toNat)
      case atStart => exact ⟨0, Nat.zero_le _, rfl, Q.refl _⟩
      case round =>
        obtain ⟨k, hk, rfl, d, rfl⟩ := hrel
        by_cases hlt2 : k < ny
        · go_wp2
          go_loopw [10] (fun i wr => ∃ j : Nat, j ≤ k ∧ i = .int .i64 j ∧ Q w4 wr) (fun i _ => k - (intOf i).toNat)
          case atStart => exact ⟨0, Nat.zero_le _, rfl, _, rfl⟩
          case round =>
            clear d
            obtain ⟨j, hj, rfl, d, rfl⟩ := hrel
            by_cases hlt3 : j < k
            · have hag := HAG'.out k j (by omega) hlt3
              rcases Nat.lt_or_ge k I with hkI | hkI
              · rcases Nat.lt_or_ge j I with hjI | hjI
                · have hx : decide ((I : Int) ≤ (k : Int)) = false := by simp; omega
                  have hy : decide ((I : Int) ≤ (j : Int)) = false := by simp; omega
                  have ex : (skp I k : Int) = (k : Int) := by rw [skp_of]; rw [if_neg (by omega)]
                  have ey : (skp I j : Int) = (j : Int) := by rw [skp_of]; rw [if_neg (by omega)]
                  rw [ex, ey] at hag
                  obtain ⟨r0, hr0⟩ : ∃ r0, agreeB xs ((k : Int)) ((j : Int)) = r0 := ⟨_, rfl⟩
                  rw [hr0] at hag
                  have hne : (r0 != r0) = false := neS _
                  clear ex ey
                  go_wp2_with fail
                  refine (implAgree_is _ ys (k : Int) (j : Int) _ _ (O3.out.drewN _) hag).mono ?_
                  rintro e _ ⟨rfl, d2, rfl⟩
                  go_wp2_with fail
                  refine (implAgree_is _ xs ((k : Int)) ((j : Int)) _ _ (S3.out.drewN _) hr0).mono ?_
                  rintro e _ ⟨rfl, d3, rfl⟩
                  go_wp2
                  go_roundw
                  case rel => exact ⟨j + 1, by omega, by go_num, by first | exact ⟨_, rfl⟩ | exact Q.more _ _⟩
                  case measure => simp [intOf]; omega
                · omega
              · rcases Nat.lt_or_ge j I with hjI | hjI
                · have hx : decide ((I : Int) ≤ (k : Int)) = true := by simp; omega
                  have hy : decide ((I : Int) ≤ (j : Int)) = false := by simp; omega
                  have ex : (skp I k : Int) = (k : Int) + 1 := by rw [skp_of]; rw [if_pos (by omega)]
                  have ey : (skp I j : Int) = (j : Int) := by rw [skp_of]; rw [if_neg (by omega)]
                  rw [ex, ey] at hag
                  obtain ⟨r0, hr0⟩ : ∃ r0, agreeB xs ((k : Int) + 1) ((j : Int)) = r0 := ⟨_, rfl⟩
                  rw [hr0] at hag
                  have hne : (r0 != r0) = false := neS _
                  clear ex ey
                  go_wp2_with fail
                  refine (implAgree_is _ ys (k : Int) (j : Int) _ _ (O3.out.drewN _) hag).mono ?_
                  rintro e _ ⟨rfl, d2, rfl⟩
                  go_wp2_with fail
                  refine (implAgree_is _ xs ((k : Int) + 1) ((j : Int)) _ _ (S3.out.drewN _) hr0).mono ?_
                  rintro e _ ⟨rfl, d3, rfl⟩
                  go_wp2
                  go_roundw
                  case rel => exact ⟨j + 1, by omega, by go_num, by first | exact ⟨_, rfl⟩ | exact Q.more _ _⟩
                  case measure => simp [intOf]; omega
                · have hx : decide ((I : Int) ≤ (k : Int)) = true := by simp; omega
                  have hy : decide ((I : Int) ≤ (j : Int)) = true := by simp; omega
                  have ex : (skp I k : Int) = (k : Int) + 1 := by rw [skp_of]; rw [if_pos (by omega)]
                  have ey : (skp I j : Int) = (j : Int) + 1 := by rw [skp_of]; rw [if_pos (by omega)]
                  rw [ex, ey] at hag
                  obtain ⟨r0, hr0⟩ : ∃ r0, agreeB xs ((k : Int) + 1) ((j : Int) + 1) = r0 := ⟨_, rfl⟩
                  rw [hr0] at hag
                  have hne : (r0 != r0) = false := neS _
                  clear ex ey
                  go_wp2_with fail
                  refine (implAgree_is _ ys (k : Int) (j : Int) _ _ (O3.out.drewN _) hag).mono ?_
                  rintro e _ ⟨rfl, d2, rfl⟩
                  go_wp2_with fail
                  refine (implAgree_is _ xs ((k : Int) + 1) ((j : Int) + 1) _ _ (S3.out.drewN _) hr0).mono ?_
                  rintro e _ ⟨rfl, d3, rfl⟩
                  go_wp2
                  go_roundw
                  case rel => exact ⟨j + 1, by omega, by go_num, by first | exact ⟨_, rfl⟩ | exact Q.more _ _⟩
                  case measure => simp [intOf]; omega
            · obtain rfl : k = j := by omega
              go_wp2
              go_roundw
              case rel => exact ⟨k + 1, by omega, by go_num, _, rfl⟩
              case measure => simp [intOf]; omega
        · obtain rfl : ny = k := by omega
          go_wp2_with fail
          refine (implOrdersValid_is _ ys _ _ (O3.out.drewN _) HORD.out).mono ?_
          rintro e _ ⟨rfl, rfl⟩
          go_wp2
          go_ret
          exact ⟨rfl, below_drewN B3.out _⟩
  · have hlt : decide ((1048576 : Int) < (len0 : Int)) = true := by simp; omega
    go_enter Try.func11, Try.ntmps11
    go_wp2
    go_ret
    exact ⟨rfl, Below.refl _ _⟩

set_option maxRecDepth 100000 in
theorem lifted (os : Os) (started : os.Started) (H : Type) (enc : TypeId × Value → H) :
    ReturnsInHanded {} Try.checked os 11 .any (Rows.fnDropSpec.pre6 enc Try.prog Try.f11 Rows.fnDropRow.domain false) (Rows.fnDropSpec.post enc Try.prog Try.f11 false true false false) := by
  refine returnsInHanded_of_change (C := Try.checked) own started (by kernel_rfl) Try.func11
    (ChangeSpec.witness6 (enc := enc) (C := Try.checked) false ⟨#[], #[.slice none 0 0], []⟩ 8 (by kernel_rfl) (by kernel_rfl) (by kernel_rfl) (by kernel_rfl)) ?_
  intro W base args ds gs before hval0 hW hcnd _
  have hval : ∀ (j : Nat) t v, Try.f11.params[j]? = some t → args[j]? = some v → Value.okWide Try.prog W .any base t v := hval0
  have hW' := hW
  obtain ⟨p, q, hA0, hV, rfl, hfz, hnd⟩ := hW
  have hA : DataW.TrodAll enc Try.prog W 0 (fun _ => true) true Try.f11.params.toList args.toList ds p := hA0
  rw [Try.params11] at hA hval
  obtain ⟨v0, vs0, d0, ds0, p0, q0, hargs, rfl, rfl, h0, r0⟩ := trodAll_cons hA
  obtain ⟨rfl, rfl, rfl⟩ := trodAll_nil r0
  obtain rfl : args = #[v0] := by cases args; simp_all
  obtain ⟨rfl, rfl⟩ := trodVars_none hV
  obtain ⟨a0, len0, cap0, rfl⟩ := okWide_slice Try.underlying33 (hval 0 33 v0 rfl rfl)
  have k0 := h0
  have lt0 : ∀ x ∈ p0, x.block < W.heap.size := by obtain ⟨m, hm⟩ := k0; exact DataW.trod_lt m _ _ _ hm
  obtain ⟨z0, w0⟩ := by0_of h0
  clear hA0 hval0
  refine (walk a0 len0 cap0 z0 W w0).mono fun e W' ⟨he, bel⟩ => ?_
  subst he
  exact ⟨_, rfl, _, _, _, [], _, [], hW', trodAll_mk1 (shut_bool Try.underlying4 _), (trodAll_cons_mk (Below.trod laidOut (by kernel_rfl) (of_decide_eq_true (by kernel_rfl)) k0 bel lt0) trodAll_mk0), rfl, bel.frame _, fun h => by cases h⟩

theorem over : Rows.fnDropRow.holds Try.pinned (OpenSpec.ofChange Rows.fnDropSpec) :=
  OpenClaim.holds_of_wide 11 Try.f11 rfl rfl rfl rfl rfl rfl rfl ⟨rfl, rfl, rfl, rfl, rfl⟩ rfl rfl rfl rfl rfl (by kernel_rfl) Try.func11 (facts_of signs (by kernel_rfl))
    (of_decide_eq_true (by kernel_rfl)) (by unfold Func.isWrapper; first | (rw [if_pos (by decide +kernel)]; kernel_rfl) | (rw [if_neg (by decide +kernel)]; exact ⟨rfl, rfl⟩))
    (fun os started H enc _ => lifted os started H enc)

theorem proved : Rows.FnDropSaid := over
#print axioms proved

end Go.Proofs.Ytldjnfcdmhcjdaa.fnDrop
