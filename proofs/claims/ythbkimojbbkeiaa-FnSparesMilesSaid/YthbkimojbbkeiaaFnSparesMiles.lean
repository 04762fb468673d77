/- FnSparesMiles: all kinds have all miles; sorting keeps the miles of a kind. -/
import Derived.Test.YthbkimojbbkeiaaLawD
import Derived.Test.YthbkimojbbkeiaaSpDr3
import Derived.Test.YthbkimojbbkeiaaSoS
import Derived.Test.YthbkimojbbkeiaaSoLaw
namespace Go.Proofs.Ythbkimojbbkeiaa.fnSparesMiles
open Go.ChangeShapes Go.WideShapes Go.ChangeAt Go.RowKit
set_option linter.unusedVariables false

theorem implMiles_is {M : Int} (v : Value) (kind : Int) (cs : List Int) (n hi : Nat) (w : World) (hv : SlF 2 w hi v cs n) (h : kmI cs n kind = M) :
    Calls Try.prog 28 #[v, .int .i64 kind] w fun e w' => e = .returned (.int .i64 M) ∧ Below w.heap.size w w' := h ▸ implSparesMiles_b v kind cs n hi w hv
theorem specMiles_is {M : Int} (v : Value) (kind : Int) (cs : List Int) (n hi : Nat) (w : World) (hv : SlF 2 w hi v cs n) (h : kmI cs n kind = M) :
    Calls Try.prog 27 #[v, .int .i64 kind] w fun e w' => e = .returned (.int .i64 M) ∧ w = w' := h ▸ specSparesMiles_b v kind cs n hi w hv

set_option maxRecDepth 100000 in
set_option maxHeartbeats 4000000 in
theorem walk (a0 : Option Addr) (len0 cap0 : Nat) (z0 : Unit) (w : World) (h0 : By w w.heap.size (.slice a0 len0 cap0) len0) :
    Calls Try.prog 19 #[.slice a0 len0 cap0] w fun e w' => e = .returned (.bool true) ∧ Below w.heap.size w w' := by
  by_cases hn : len0 ≤ 1048576
  · have hlt : decide ((1048576 : Int) < (len0 : Int)) = false := by simp; omega
    go_enter Try.func19, Try.ntmps19
    go_wp2_with fail
    refine (drawSparesMiles_any _ len0 w.heap.size w h0 (Nat.le_refl _)).mono ?_
    rintro e w1 ⟨v1, kind, rfl, hd⟩
    obtain ⟨cs, n, b1, s1, hn12, hk1, hk4⟩ := hd.out
    obtain ⟨M, hM⟩ : ∃ M, kmI cs n kind = M := ⟨_, rfl⟩
    have HM := Lib.hid hM
    have B := Lib.hid b1
    have V1 := Lib.hid s1
    obtain ⟨a1, cap1, rfl, hl1, -⟩ := s1
    have hne : (M != M) = false := by simp
    clear hd b1 hM
    go_wp2_with fail
    refine (implMiles_is _ kind cs n _ _ V1.out HM.out).mono ?_
    rintro e w2 ⟨rfl, b⟩
    replace B := Lib.hid (nextW B.out b)
    replace V1 := Lib.hid (V1.out.old b)
    clear b
    go_wp2_with fail
    refine (specMiles_is _ kind cs n _ _ V1.out HM.out).mono ?_
    rintro e _ ⟨rfl, rfl⟩
    by_cases hM0 : M < 0
    · have t1 : decide (M < 0) = true := decide_eq_true hM0
      go_wp2_with fail
      go_ret
      exact ⟨rfl, B.out⟩
    · have t1 : decide (M < 0) = false := decide_eq_false hM0
      have hsp : spB 10 cs n = true := by
        cases e : spB 10 cs n with
        | true => rfl
        | false => have := HM.out; rw [kmI_no e] at this; omega
      have HS := Lib.hid hsp
      have hM1 : (-1 : Int) ≤ M ∧ M ≤ 500 := HM.out ▸ kmI_bd
      go_wp2_with fail
      refine (implSparesSort_b _ cs n _ _ V1.out).mono ?_
      rintro e w3 ⟨v3, rfl, b3, s3⟩
      replace B := Lib.hid (nextW B.out b3.out)
      replace V1 := Lib.hid (V1.out.old b3.out)
      have V3 : Hid (SlF 2 w3 w3.heap.size v3 (srtL cs n) n) := Lib.hid (by have := s3.out.sl; rwa [(srt_law HS.out).1] at this)
      obtain ⟨a3, cap3, rfl, -⟩ := V3.out
      have HT := Lib.hid (spB_true.1 HS.out)
      clear b3 s3
      rw [hsp]
      obtain ⟨_, _, e2, _, _, _, _, hc1⟩ := V1.out
      cases e2
      have HC := Lib.hid hc1
      clear hc1
      go_wp2
      go_loop [9, 10] (fun s i => ∃ k : Nat, k ≤ n ∧ i = .int .i64 k ∧ s = .int .i64 (amTo cs k)) (fun _ i => n - (intOf i).toNat)
      case atStart => exact ⟨0, Nat.zero_le _, rfl, rfl⟩
      case round =>
        obtain ⟨k, hk, rfl, rfl⟩ := hrel
        by_cases hlt2 : k < n
        · obtain ⟨b1, off1, rfl, hb1, hc1⟩ := HC.out (by omega)
          obtain ⟨d0, d1⟩ := cellsS hc1 hlt2 (Below.refl _ _) (World.block_lt_of_cell? w3 _ (hc1 (k * 2) (by omega)))
          have hb := amTo_bd (spTo_mono HT.out.2 hk)
          have hs := (HT.out.2 k hlt2).1
          have hw : IntKind.i64.wrap (amTo cs k + smi cs k) = amTo cs k + smi cs k := IntWalk.i64_in _ (by omega)
          clear hc1 hb hs
          go_wp2
          go_round
          case rel => exact ⟨k + 1, by omega, by go_num, rfl⟩
          case measure => simp [intOf]; omega
        · obtain rfl : n = k := by omega
          have HR0 : Hid (amTo cs n = rmTo cs n 0) := Lib.hid rfl
          clear HC
          go_wp2
          go_loopw [9, 11] (fun s i wr => ∃ k : Nat, k ≤ 4 ∧ i = .int .i64 k ∧ s = .int .i64 (rmTo cs n k) ∧ Hid (Below w3.heap.size w3 wr)) (fun _ i _ => 4 - (intOf i).toNat)
          case atStart => exact ⟨0, Nat.zero_le _, rfl, by rw [HR0.out], Below.refl _ _⟩
          case round =>
            obtain ⟨k, hk, rfl, rfl, hB⟩ := hrel
            by_cases hlt3 : k < 4
            · have V4 := Lib.hid (V1.out.old hB.out)
              have r1 := rm_bd HT.out.2 k (by omega)
              have r2 := rm_bd HT.out.2 (k + 1) (by omega)
              have hw : IntKind.i64.wrap (rmTo cs n k - kmTo cs (k : Int) n) = rmTo cs n (k + 1) := IntWalk.i64_in _ (show _ ≤ rmTo cs n (k + 1) ∧ rmTo cs n (k + 1) ≤ _ by omega)
              clear r1 r2
              go_wp2_with fail
              refine (implMiles_is _ (k : Int) cs n _ _ V4.out (kmI_yes HS.out)).mono ?_
              rintro e w4 ⟨rfl, b4⟩
              have B4 := Lib.hid (nextW hB.out b4)
              clear b4 V4
              go_wp2_with fail
              go_roundw
              case rel => exact ⟨k + 1, by omega, by go_num, rfl, B4⟩
              case measure => simp [intOf]; omega
            · obtain rfl : k = 4 := by omega
              have hz : rmTo cs n 4 = 0 := rm_four HT.out.2
              rw [hz]
              have V4 := Lib.hid (V3.out.old hB.out)
              clear hz
              go_wp2_with fail
              refine (implMiles_is _ kind (srtL cs n) n _ _ V4.out ((kmI_srt kind HS.out).trans HM.out)).mono ?_
              rintro e w4 ⟨rfl, b4⟩
              have B4 := Lib.hid (nextW (nextW B.out hB.out) b4)
              clear b4 V4
              go_wp2_with fail
              go_ret
              exact ⟨rfl, B4.out⟩
  · have hlt : decide ((1048576 : Int) < (len0 : Int)) = true := by simp; omega
    go_enter Try.func19, Try.ntmps19
    go_wp2
    go_ret
    exact ⟨rfl, Below.refl _ _⟩

set_option maxRecDepth 100000 in
theorem lifted (os : Os) (started : os.Started) (H : Type) (enc : TypeId × Value → H) :
    ReturnsInHanded {} Try.checked os 19 .any (Rows.fnSparesMilesSpec.pre6 enc Try.prog Try.f19 Rows.fnSparesMilesRow.domain false) (Rows.fnSparesMilesSpec.post enc Try.prog Try.f19 false true false false) := by
  refine returnsInHanded_of_change (C := Try.checked) own started (by kernel_rfl) Try.func19
    (ChangeSpec.witness6 (enc := enc) (C := Try.checked) false ⟨#[], #[.slice none 0 0], []⟩ 8 (by kernel_rfl) (by kernel_rfl) (by kernel_rfl) (by kernel_rfl)) ?_
  intro W base args ds gs before hval0 hW hcnd _
  have hval : ∀ (j : Nat) t v, Try.f19.params[j]? = some t → args[j]? = some v → Value.okWide Try.prog W .any base t v := hval0
  have hW' := hW
  obtain ⟨p, q, hA0, hV, rfl, hfz, hnd⟩ := hW
  have hA : DataW.TrodAll enc Try.prog W 0 (fun _ => true) true Try.f19.params.toList args.toList ds p := hA0
  rw [Try.params19] at hA hval
  obtain ⟨v0, vs0, d0, ds0, p0, q0, hargs, rfl, rfl, h0, r0⟩ := trodAll_cons hA
  obtain ⟨rfl, rfl, rfl⟩ := trodAll_nil r0
  obtain rfl : args = #[v0] := by cases args; simp_all
  obtain ⟨rfl, rfl⟩ := trodVars_none hV
  obtain ⟨a0, len0, cap0, rfl⟩ := okWide_slice Try.underlying48 (hval 0 48 v0 rfl rfl)
  have k0 := h0
  have lt0 : ∀ x ∈ p0, x.block < W.heap.size := by obtain ⟨m, hm⟩ := k0; exact DataW.trod_lt m _ _ _ hm
  obtain ⟨z0, w0⟩ := by0_of h0
  clear hA0 hval0
  refine (walk a0 len0 cap0 z0 W w0).mono fun e W' ⟨he, bel⟩ => ?_
  subst he
  exact ⟨_, rfl, _, _, _, [], _, [], hW', trodAll_mk1 (shut_bool Try.underlying4 _), (trodAll_cons_mk (Below.trod laidOut (by kernel_rfl) (of_decide_eq_true (by kernel_rfl)) k0 bel lt0) trodAll_mk0), rfl, bel.frame _, fun h => by cases h⟩

theorem over : Rows.fnSparesMilesRow.holds Try.pinned (OpenSpec.ofChange Rows.fnSparesMilesSpec) :=
  OpenClaim.holds_of_wide 19 Try.f19 rfl rfl rfl rfl rfl rfl rfl ⟨rfl, rfl, rfl, rfl, rfl⟩ rfl rfl rfl rfl rfl (by kernel_rfl) Try.func19 (facts_of signs (by kernel_rfl))
    (of_decide_eq_true (by kernel_rfl)) (by unfold Func.isWrapper; first | (rw [if_pos (by decide +kernel)]; kernel_rfl) | (rw [if_neg (by decide +kernel)]; exact ⟨rfl, rfl⟩))
    (fun os started H enc _ => lifted os started H enc)

theorem proved : Rows.FnSparesMilesSaid := over
#print axioms proved

end Go.Proofs.Ythbkimojbbkeiaa.fnSparesMiles
