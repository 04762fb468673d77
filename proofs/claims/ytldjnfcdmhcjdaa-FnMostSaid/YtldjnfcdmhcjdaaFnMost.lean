/- FnMost: some tank has most. -/
import Derived.Test.YtldjnfcdmhcjdaaLawC
import Derived.Test.YtldjnfcdmhcjdaaStowDr2
import Derived.Test.YtldjnfcdmhcjdaaCntI
import Derived.Test.YtldjnfcdmhcjdaaStowLaw
namespace Go.Proofs.Ytldjnfcdmhcjdaa.fnMost
open Go.ChangeShapes Go.WideShapes Go.ChangeAt Go.RowKit
set_option linter.unusedVariables false

theorem impl_is {m : Int} (v0 v1 : Value) (xs ts : List Int) (hi0 hi1 : Nat) (w : World) (hv0 : Sl w hi0 v0 xs) (hv1 : Sl w hi1 v1 ts) (h : mostI xs ts = m) :
    Calls Try.prog 43 #[v0, v1] w fun e w' => e = .returned (.int .i64 m) ∧ Below w.heap.size w w' := h ▸ implStowageMost_b v0 v1 xs ts hi0 hi1 w hv0 hv1
theorem spec_is {m : Int} (v0 v1 : Value) (xs ts : List Int) (hi0 hi1 : Nat) (w : World) (hv0 : Sl w hi0 v0 xs) (hv1 : Sl w hi1 v1 ts) (h : mostI xs ts = m) :
    Calls Try.prog 42 #[v0, v1] w fun e w' => e = .returned (.int .i64 m) ∧ Below w.heap.size w w' := h ▸ specStowageMost_b v0 v1 xs ts hi0 hi1 w hv0 hv1
theorem nil_eq {a b : Nat} (h : a = 0 ↔ b = 0) : (((a : Int) == 0) == ((b : Int) == 0)) = true := by
  by_cases ha : a = 0
  · have hb := h.1 ha; subst ha; subst hb; rfl
  · have hb : ¬ b = 0 := fun e => ha (h.2 e)
    have e1 : ((a : Int) == 0) = false := by rw [beq_eq_false_iff_ne]; omega
    have e2 : ((b : Int) == 0) = false := by rw [beq_eq_false_iff_ne]; omega
    rw [e1, e2]; rfl

set_option maxHeartbeats 2000000 in
theorem walk (a0 : Option Addr) (len0 cap0 : Nat) (z0 : Unit) (w : World) (h0 : By w w.heap.size (.slice a0 len0 cap0) len0) :
    Calls Try.prog 17 #[.slice a0 len0 cap0] w fun e w' => e = .returned (.bool true) ∧ Below w.heap.size w w' := by
  by_cases hn : len0 ≤ 1048576
  · have hlt : decide ((1048576 : Int) < (len0 : Int)) = false := by simp; omega
    go_enter Try.func17, Try.ntmps17
    go_wp2_with fail
    refine (drawStowageMost_any _ len0 w.heap.size w h0 (Nat.le_refl _)).mono ?_
    rintro e w1 ⟨v0, v1, xs, ts, rfl, b1, r1, l1, t1, lt1, -⟩
    have S1 := Lib.hid r1.sl
    have T1 := Lib.hid t1.sl
    have B1 := Lib.hid b1
    clear r1 t1 b1
    have main : ∀ m, mostI xs ts = m → Calls Try.prog 43 #[v0, v1] w1 fun e w' => e = .returned (.int .i64 m) ∧ Below w1.heap.size w1 w' := fun m h => impl_is v0 v1 xs ts _ _ w1 S1.out T1.out h
    have MAIN := Lib.hid main
    clear main
    cases hs : stowB xs ts with
    | false =>
      have hm : mostI xs ts = -1 := by simp [mostI, hs]
      have HM := Lib.hid hm
      clear hm hs
      go_wp2_with fail
      refine (MAIN.out _ HM.out).mono ?_
      rintro e w2 ⟨rfl, b2⟩
      have S2 := Lib.hid (S1.out.old b2)
      have T2 := Lib.hid (T1.out.old b2)
      have B2 := Lib.hid (nextB B1.out b2)
      clear b2 S1 T1 B1 MAIN
      go_wp2_with fail
      refine (spec_is _ _ xs ts _ _ _ S2.out T2.out HM.out).mono ?_
      rintro e w3 ⟨rfl, b3⟩
      have B3 := Lib.hid (nextB B2.out b3)
      clear b3 S2 T2 B2
      go_wp2
      go_ret
      exact ⟨rfl, B3.out⟩
    | true =>
      obtain ⟨M, hM⟩ : ∃ M, maxTo (fun t => cnt ts (t : Int) ts.length) 5 = M := ⟨_, rfl⟩
      have hm : mostI xs ts = (M : Int) := by simp [mostI, hs, hM]
      have hz := most_zero hs
      have hge := fun t ht => maxTo_ge (f := fun t => cnt ts (t : Int) ts.length) 5 t ht
      have hle := maxTo_le (f := fun t => cnt ts (t : Int) ts.length) (b := ts.length) (fun t => cnt_le ts (t : Int) ts.length) 5
      rw [hM] at hz hle
      simp only [hM] at hge
      have hlen := (stowB_true.1 hs).2.1
      have HM := Lib.hid hm
      have HZ := Lib.hid hz
      have HG := Lib.hid hge
      have HLEN := Lib.hid hlen
      clear hm hs hz hge hlen hM
      have hneg : decide ((M : Int) < 0) = false := decide_eq_false (by omega)
      have hnn : ((M : Int) != (M : Int)) = false := by simp
      go_wp2_with fail
      refine (MAIN.out _ HM.out).mono ?_
      rintro e w2 ⟨rfl, b2⟩
      have S2 := Lib.hid (S1.out.old b2)
      have T2 := Lib.hid (T1.out.old b2)
      have B2 := Lib.hid (nextB B1.out b2)
      clear b2 S1 T1 B1 MAIN
      go_wp2_with fail
      refine (spec_is _ _ xs ts _ _ _ S2.out T2.out HM.out).mono ?_
      rintro e w3 ⟨rfl, b3⟩
      have S3 := Lib.hid (S2.out.old b3)
      have T3 := Lib.hid (T2.out.old b3)
      have B3 := Lib.hid (nextB B2.out b3)
      clear b3 S2 T2 B2
      have s3 := S3.out
      have t3 := T3.out
      obtain ⟨ax, nx, cx, rfl, hlx, _, _, _, -⟩ := s3
      obtain ⟨ay, ny, cy, rfl, hly, _, _, _, hty⟩ := t3
      have hxy : nx = ny := by have := HLEN.out; omega
      subst hxy
      rw [hly] at hle
      have hd2 : decide (M ≤ nx) = true := decide_eq_true hle
      have hd3 : decide ((M : Int) ≤ (nx : Int)) = true := decide_eq_true (by omega)
      have HNIL : Hid ((((M : Int) == 0) == ((nx : Int) == 0)) = true) := Lib.hid (nil_eq (by rw [← hlx]; exact HZ.out))
      have HLY := Lib.hid hly
      have HTY := Lib.hid hty
      clear hlx hly hty
      go_wp2
      go_loop [7] (fun i => ∃ T : Nat, T ≤ 5 ∧ i = .int .i64 T) (fun i => 5 - (intOf i).toNat)
      case atStart => exact ⟨0, by omega, rfl⟩
      case round =>
        obtain ⟨T, hT, rfl⟩ := hrel
        by_cases hT5 : T < 5
        · have hdT : decide ((T : Int) < 5) = true := decide_eq_true (by omega)
          go_wp2
          go_loop [8, 9] (fun c i => ∃ j : Nat, j ≤ nx ∧ i = .int .i64 j ∧ c = .int .i64 (cnt ts (T : Int) j : Int)) (fun _ i => nx - (intOf i).toNat)
          case atStart => exact ⟨0, Nat.zero_le _, rfl, rfl⟩
          case round =>
            obtain ⟨j, hj, rfl, rfl⟩ := hrel
            have hcl := cnt_le ts (T : Int) j
            by_cases hlt3 : j < nx
            · obtain ⟨b, off, rfl, hbh, hc⟩ := HTY.out (by omega)
              have hcj := hc j hlt3
              clear hc
              by_cases he : gi ts j = (T : Int)
              · have hb : (gi ts j == (T : Int)) = true := by simp [he]
                have HE : Hid (cnt ts (T : Int) (j + 1) = cnt ts (T : Int) j + 1) := Lib.hid (by simp only [cnt, if_pos he])
                clear he
                go_wp2
                go_round
                case rel => exact ⟨j + 1, by omega, by go_num, by rw [HE.out]; go_num⟩
                case measure => simp [intOf]; omega
              · have hb : (gi ts j == (T : Int)) = false := by simp [he]
                have HE : Hid (cnt ts (T : Int) (j + 1) = cnt ts (T : Int) j) := Lib.hid (by simp only [cnt, if_neg he]; rfl)
                clear he
                go_wp2
                go_round
                case rel => exact ⟨j + 1, by omega, by go_num, by rw [HE.out]⟩
                case measure => simp [intOf]; omega
            · obtain rfl : nx = j := by omega
              have hg := HG.out T hT5
              rw [HLY.out] at hg
              have hdd : decide (M < cnt ts (T : Int) nx) = false := decide_eq_false (by omega)
              have hdi : decide ((M : Int) < (cnt ts (T : Int) nx : Int)) = false := decide_eq_false (by omega)
              go_wp2
              go_round
              case rel => exact ⟨T + 1, by omega, by go_num⟩
              case measure => simp [intOf]; omega
        · obtain rfl : T = 5 := by omega
          have hnil := HNIL.out
          go_wp2
          go_ret
          exact ⟨rfl, B3.out⟩
  · have hlt : decide ((1048576 : Int) < (len0 : Int)) = true := by simp; omega
    go_enter Try.func17, Try.ntmps17
    go_wp2
    go_ret
    exact ⟨rfl, Below.refl _ _⟩

set_option maxRecDepth 100000 in
theorem lifted (os : Os) (started : os.Started) (H : Type) (enc : TypeId × Value → H) :
    ReturnsInHanded {} Try.checked os 17 .any (Rows.fnMostSpec.pre6 enc Try.prog Try.f17 Rows.fnMostRow.domain false) (Rows.fnMostSpec.post enc Try.prog Try.f17 false true false false) := by
  refine returnsInHanded_of_change (C := Try.checked) own started (by kernel_rfl) Try.func17
    (ChangeSpec.witness6 (enc := enc) (C := Try.checked) false ⟨#[], #[.slice none 0 0], []⟩ 8 (by kernel_rfl) (by kernel_rfl) (by kernel_rfl) (by kernel_rfl)) ?_
  intro W base args ds gs before hval0 hW hcnd _
  have hval : ∀ (j : Nat) t v, Try.f17.params[j]? = some t → args[j]? = some v → Value.okWide Try.prog W .any base t v := hval0
  have hW' := hW
  obtain ⟨p, q, hA0, hV, rfl, hfz, hnd⟩ := hW
  have hA : DataW.TrodAll enc Try.prog W 0 (fun _ => true) true Try.f17.params.toList args.toList ds p := hA0
  rw [Try.params17] at hA hval
  obtain ⟨v0, vs0, d0, ds0, p0, q0, hargs, rfl, rfl, h0, r0⟩ := trodAll_cons hA
  obtain ⟨rfl, rfl, rfl⟩ := trodAll_nil r0
  obtain rfl : args = #[v0] := by cases args; simp_all
  obtain ⟨rfl, rfl⟩ := trodVars_none hV
  obtain ⟨a0, len0, cap0, rfl⟩ := okWide_slice Try.underlying33 (hval 0 33 v0 rfl rfl)
  have k0 := h0
  have lt0 : ∀ x ∈ p0, x.block < W.heap.size := by obtain ⟨m, hm⟩ := k0; exact DataW.trod_lt m _ _ _ hm
  obtain ⟨z0, w0⟩ := by0_of h0
  clear hA0 hval0
  refine (walk a0 len0 cap0 z0 W w0).mono fun e W' ⟨he, bel⟩ => ?_
  subst he
  exact ⟨_, rfl, _, _, _, [], _, [], hW', trodAll_mk1 (shut_bool Try.underlying4 _), (trodAll_cons_mk (Below.trod laidOut (by kernel_rfl) (of_decide_eq_true (by kernel_rfl)) k0 bel lt0) trodAll_mk0), rfl, bel.frame _, fun h => by cases h⟩

theorem over : Rows.fnMostRow.holds Try.pinned (OpenSpec.ofChange Rows.fnMostSpec) :=
  OpenClaim.holds_of_wide 17 Try.f17 rfl rfl rfl rfl rfl rfl rfl ⟨rfl, rfl, rfl, rfl, rfl⟩ rfl rfl rfl rfl rfl (by kernel_rfl) Try.func17 (facts_of signs (by kernel_rfl))
    (of_decide_eq_true (by kernel_rfl)) (by unfold Func.isWrapper; first | (rw [if_pos (by decide +kernel)]; kernel_rfl) | (rw [if_neg (by decide +kernel)]; exact ⟨rfl, rfl⟩))
    (fun os started H enc _ => lifted os started H enc)

theorem proved : Rows.FnMostSaid := over
#print axioms proved

end Go.Proofs.Ytldjnfcdmhcjdaa.fnMost
