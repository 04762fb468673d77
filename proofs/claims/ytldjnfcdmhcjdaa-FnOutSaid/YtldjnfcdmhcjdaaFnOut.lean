/- FnOut: each coil comes out of its tank. -/
import Derived.Test.YtldjnfcdmhcjdaaLawC
import Derived.Test.YtldjnfcdmhcjdaaStowDr2
import Derived.Test.YtldjnfcdmhcjdaaOut
import Derived.Test.YtldjnfcdmhcjdaaBackI
import Derived.Test.YtldjnfcdmhcjdaaStowI
import Derived.Test.YtldjnfcdmhcjdaaStowLaw
import Derived.Test.YtldjnfcdmhcjdaaBackOf
import Derived.Test.YtldjnfcdmhcjdaaSame
namespace Go.Proofs.Ytldjnfcdmhcjdaa.fnOut
open Go.ChangeShapes Go.WideShapes Go.ChangeAt Go.RowKit
set_option linter.unusedVariables false

theorem impl_is {b : Bool} (v0 v1 : Value) (xs ts : List Int) (hi0 hi1 : Nat) (w : World) (hv0 : Sl w hi0 v0 xs) (hv1 : Sl w hi1 v1 ts) (h : stowB xs ts = b) :
    Calls Try.prog 45 #[v0, v1] w fun e w' => ∃ r, e = .returned (.tuple #[r, .bool b]) ∧ Below w.heap.size w w' ∧ Wr w' w.heap.size w'.heap.size r (outOut xs ts) := h ▸ implStowageOut_b v0 v1 xs ts hi0 hi1 w hv0 hv1
theorem spec_is {b : Bool} (v0 v1 : Value) (xs ts : List Int) (hi0 hi1 : Nat) (w : World) (hv0 : Sl w hi0 v0 xs) (hv1 : Sl w hi1 v1 ts) (h : stowB xs ts = b) :
    Calls Try.prog 44 #[v0, v1] w fun e w' => ∃ r, e = .returned (.tuple #[r, .bool b]) ∧ Below w.heap.size w w' ∧ Wr w' w.heap.size w'.heap.size r (outOut xs ts) := h ▸ specStowageOut_b v0 v1 xs ts hi0 hi1 w hv0 hv1
theorem back_is {b : Bool} (v : Value) (xs : List Int) (hi : Nat) (w : World) (hv : Sl w hi v xs) (h : ordB xs = b) :
    Calls Try.prog 32 #[v] w fun e w' => ∃ r, e = .returned (.tuple #[r, .bool b]) ∧ Below w.heap.size w w' ∧ Wr w' w.heap.size w'.heap.size r (outBack xs) := h ▸ implOrdersBack_b v xs hi w hv

set_option maxHeartbeats 2000000 in
theorem walk (a0 : Option Addr) (len0 cap0 : Nat) (z0 : Unit) (w : World) (h0 : By w w.heap.size (.slice a0 len0 cap0) len0) :
    Calls Try.prog 18 #[.slice a0 len0 cap0] w fun e w' => e = .returned (.bool true) ∧ Below w.heap.size w w' := by
  by_cases hn : len0 ≤ 1048576
  · have hlt : decide ((1048576 : Int) < (len0 : Int)) = false := by simp; omega
    go_enter Try.func18, Try.ntmps18
    go_wp2_with fail
    refine (drawStowageOut_any _ len0 w.heap.size w h0 (Nat.le_refl _)).mono ?_
    rintro e w1 ⟨v0, v1, xs, ts, rfl, b1, r1, l1, t1, lt1, -⟩
    have S1 := Lib.hid r1.sl
    have T1 := Lib.hid t1.sl
    have B1 := Lib.hid b1
    clear r1 t1 b1
    obtain ⟨ok, hok⟩ : ∃ ok, stowB xs ts = ok := ⟨_, rfl⟩
    have HOK := Lib.hid hok
    clear hok
    go_wp2_with fail
    refine (impl_is v0 v1 xs ts _ _ w1 S1.out T1.out HOK.out).mono ?_
    rintro e w2 ⟨r2, rfl, b2, o2⟩
    have S2 := Lib.hid (S1.out.old b2)
    have T2 := Lib.hid (T1.out.old b2)
    have B2 := Lib.hid (nextB B1.out b2)
    have O2 := Lib.hid o2.sl
    clear b2 S1 T1 B1 o2
    go_wp2_with fail
    refine (spec_is _ _ xs ts _ _ _ S2.out T2.out HOK.out).mono ?_
    rintro e w3 ⟨r3, rfl, b3, o3⟩
    have S3 := Lib.hid (S2.out.old b3)
    have T3 := Lib.hid (T2.out.old b3)
    have B3 := Lib.hid (nextB B2.out b3)
    have O3 := Lib.hid (O2.out.old b3)
    have P3 := Lib.hid o3.sl
    clear b3 S2 T2 B2 O2 o3
    cases ok with
    | false =>
      go_wp2_with fail
      refine (sameInts_is (r := true) _ _ _ _ _ _ _ O3.out P3.out (by simp)).mono ?_
      rintro e _ ⟨rfl, d1, rfl⟩
      go_wp2_with fail
      refine (sameInts_is (r := true) _ _ _ _ _ _ _ (O3.out.drewN _) (P3.out.drewN _) (by simp)).mono ?_
      rintro e _ ⟨rfl, d2, rfl⟩
      go_wp2
      go_ret
      exact ⟨rfl, below_drewN B3.out _⟩
    | true =>
      have ho : outOut xs ts = outL xs ts := by simp [outOut, HOK.out]
      rw [ho] at O3 P3
      clear ho
      go_wp2_with fail
      refine (sameInts_is (r := true) _ _ _ _ _ _ _ O3.out P3.out (by simp)).mono ?_
      rintro e _ ⟨rfl, d1, rfl⟩
      replace S3 : Hid (Sl (w3.drewN d1) w1.heap.size v0 xs) := Lib.hid (S3.out.drewN _)
      replace T3 : Hid (Sl (w3.drewN d1) w1.heap.size v1 ts) := Lib.hid (T3.out.drewN _)
      replace O3 : Hid (Sl (w3.drewN d1) w2.heap.size r2 (outL xs ts)) := Lib.hid (O3.out.drewN _)
      replace B3 : Hid (Below w.heap.size w (w3.drewN d1)) := Lib.hid (below_drewN B3.out _)
      clear P3
      revert S3 T3 O3 B3
      generalize w3.drewN d1 = w4
      intro S3 T3 O3 B3
      have hs := stowB_true.1 HOK.out
      have s3 := S3.out
      have t3 := T3.out
      have o3 := O3.out
      obtain ⟨ax, nx, cx, rfl, hlx, _, _, _, hxc⟩ := s3
      obtain ⟨ay, ny, cy, rfl, hly, _, _, _, hyc⟩ := t3
      obtain ⟨az, nz, cz, rfl, hlz, _, _, _, hzc⟩ := o3
      rw [outL_len] at hlz
      have hxy : nx = ny := by have := hs.2.1; omega
      have hxz : nx = nz := by omega
      subst hxy
      subst hxz
      rw [hlx] at l1
      have HS := Lib.hid hs.1
      have HLX := Lib.hid hlx
      have HXC := Lib.hid hxc
      have HYC := Lib.hid hyc
      have HZC := Lib.hid hzc
      clear hs hlx hly hlz hxc hyc hzc
      go_wp2
      go_loopw [9] (fun i wr => ∃ k : Nat, k ≤ nx ∧ i = .int .i64 k ∧ Q w4 wr) (fun i _ => nx - (intOf i).toNat)
      case atStart => exact ⟨0, Nat.zero_le _, rfl, Q.refl _⟩
      case round =>
        obtain ⟨k, hk, rfl, d, rfl⟩ := hrel
        by_cases hlt2 : k < nx
        · obtain ⟨b, off, rfl, hbh, hc⟩ := HXC.out (by omega)
          obtain ⟨b1, off1, rfl, hbh1, hc1⟩ := HYC.out (by omega)
          obtain ⟨b2, off2, rfl, hbh2, hc2⟩ := HZC.out (by omega)
          have hck := hc k hlt2
          have hck1 := hc1 k hlt2
          have hin := ordB_in HS.out (i := k) (by rw [HLX.out]; exact hlt2)
          rw [HLX.out] at hin
          have hat := out_at (ts := ts) HS.out (i := k) (by rw [HLX.out]; exact hlt2)
          obtain ⟨y, hy⟩ := Int.eq_ofNat_of_zero_le hin.1
          rw [hy] at hck hin hat
          simp only [Int.toNat_natCast] at hat
          have hy2 : y < nx := by omega
          have hck2 := hc2 y hy2
          rw [hat] at hck2
          have hne : (gi ts k != gi ts k) = false := by simp
          clear hc hc1 hc2 hat hin
          go_wp2
          go_quiet (fail)
          go_wp2
          go_roundw
          case rel => exact ⟨k + 1, by omega, by go_num, by first | exact ⟨_, rfl⟩ | exact Q.more _ _⟩
          case measure => simp [intOf]; omega
        · obtain rfl : nx = k := by omega
          have hl2 : (outL xs ts).length ≤ 1000 := by rw [outL_len, HLX.out]; omega
          have HL2 := Lib.hid hl2
          clear hl2
          go_wp2_with fail
          refine (back_is _ xs _ _ (S3.out.drewN _) HS.out).mono ?_
          rintro e w5 ⟨r5, rfl, b5, o5⟩
          have O5 := Lib.hid ((O3.out.drewN d).old b5)
          have B5 := Lib.hid (nextB (below_drewN B3.out d) b5)
          have R5 := Lib.hid o5.sl
          clear b5 o5 O3 S3 T3 B3
          go_wp2_with fail
          refine (backOf_any _ (outL xs ts) _ _ O5.out HL2.out).mono ?_
          rintro e w6 ⟨r6, rfl, b6, o6⟩
          have R6 := Lib.hid (R5.out.old b6)
          have B6 := Lib.hid (nextB B5.out b6)
          have P6 := Lib.hid o6.sl
          have HV : Hid (stowB (outBack xs) (outL xs ts).reverse = true) := Lib.hid (by rw [outBack, if_pos HS.out]; exact stow_back HOK.out)
          clear b6 o6 R5 B5 O5
          go_wp2_with fail
          refine (implStowageValid_is _ _ _ _ _ _ _ R6.out P6.out HV.out).mono ?_
          rintro e w7 ⟨rfl, b7⟩
          have B7 := Lib.hid (nextB B6.out b7)
          clear b7
          go_wp2
          go_ret
          exact ⟨rfl, B7.out⟩
  · have hlt : decide ((1048576 : Int) < (len0 : Int)) = true := by simp; omega
    go_enter Try.func18, Try.ntmps18
    go_wp2
    go_ret
    exact ⟨rfl, Below.refl _ _⟩

set_option maxRecDepth 100000 in
theorem lifted (os : Os) (started : os.Started) (H : Type) (enc : TypeId × Value → H) :
    ReturnsInHanded {} Try.checked os 18 .any (Rows.fnOutSpec.pre6 enc Try.prog Try.f18 Rows.fnOutRow.domain false) (Rows.fnOutSpec.post enc Try.prog Try.f18 false true false false) := by
  refine returnsInHanded_of_change (C := Try.checked) own started (by kernel_rfl) Try.func18
    (ChangeSpec.witness6 (enc := enc) (C := Try.checked) false ⟨#[], #[.slice none 0 0], []⟩ 8 (by kernel_rfl) (by kernel_rfl) (by kernel_rfl) (by kernel_rfl)) ?_
  intro W base args ds gs before hval0 hW hcnd _
  have hval : ∀ (j : Nat) t v, Try.f18.params[j]? = some t → args[j]? = some v → Value.okWide Try.prog W .any base t v := hval0
  have hW' := hW
  obtain ⟨p, q, hA0, hV, rfl, hfz, hnd⟩ := hW
  have hA : DataW.TrodAll enc Try.prog W 0 (fun _ => true) true Try.f18.params.toList args.toList ds p := hA0
  rw [Try.params18] at hA hval
  obtain ⟨v0, vs0, d0, ds0, p0, q0, hargs, rfl, rfl, h0, r0⟩ := trodAll_cons hA
  obtain ⟨rfl, rfl, rfl⟩ := trodAll_nil r0
  obtain rfl : args = #[v0] := by cases args; simp_all
  obtain ⟨rfl, rfl⟩ := trodVars_none hV
  obtain ⟨a0, len0, cap0, rfl⟩ := okWide_slice Try.underlying33 (hval 0 33 v0 rfl rfl)
  have k0 := h0
  have lt0 : ∀ x ∈ p0, x.block < W.heap.size := by obtain ⟨m, hm⟩ := k0; exact DataW.trod_lt m _ _ _ hm
  obtain ⟨z0, w0⟩ := by0_of h0
  clear hA0 hval0
  refine (walk a0 len0 cap0 z0 W w0).mono fun e W' ⟨he, bel⟩ => ?_
  subst he
  exact ⟨_, rfl, _, _, _, [], _, [], hW', trodAll_mk1 (shut_bool Try.underlying4 _), (trodAll_cons_mk (Below.trod laidOut (by kernel_rfl) (of_decide_eq_true (by kernel_rfl)) k0 bel lt0) trodAll_mk0), rfl, bel.frame _, fun h => by cases h⟩

theorem over : Rows.fnOutRow.holds Try.pinned (OpenSpec.ofChange Rows.fnOutSpec) :=
  OpenClaim.holds_of_wide 18 Try.f18 rfl rfl rfl rfl rfl rfl rfl ⟨rfl, rfl, rfl, rfl, rfl⟩ rfl rfl rfl rfl rfl (by kernel_rfl) Try.func18 (facts_of signs (by kernel_rfl))
    (of_decide_eq_true (by kernel_rfl)) (by unfold Func.isWrapper; first | (rw [if_pos (by decide +kernel)]; kernel_rfl) | (rw [if_neg (by decide +kernel)]; exact ⟨rfl, rfl⟩))
    (fun os started H enc _ => lifted os started H enc)

theorem proved : Rows.FnOutSaid := over
#print axioms proved

end Go.Proofs.Ytldjnfcdmhcjdaa.fnOut
