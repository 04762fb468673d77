/- Contracts: FaultOne of the reference and of the program. -/
import Derived.Test.YtoanefccnbnkmaaOwF
namespace Go.Proofs.Ytoanefccnbnkmaa
open Go.RowKit

/-- What FaultOne answers. -/
def oneOk (cs : List Int) (n : Nat) (a : Int) : Bool := cabB cs n && decide (0 ≤ a)
def oneL (cs : List Int) (n : Nat) (a : Int) : List Int := if oneOk cs n a then onTo cs n a (nMl cs n) else []
theorem in_shift (a R : Int) : inB (a - R) 0 1000 = inB a R (R + 1000) := by
  rw [Bool.eq_iff_iff]
  simp only [inB_true]
  omega
theorem onTo_next (cs : List Int) (n : Nat) (a : Int) (k : Nat) : onTo cs n a (k + 1) = if inB a (ohmsI cs n k) (ohmsI cs n k + 1000) then onTo cs n a k ++ [(k : Int), a - ohmsI cs n k] else onTo cs n a k := by
  rw [← in_shift]; rfl

set_option maxHeartbeats 1000000 in
theorem specFaultOne_b (v : Value) (a : Int) (cs : List Int) (n hi : Nat) (w : World) (hv : SlF 3 w hi v cs n) :
    Calls Try.prog 39 #[v, .int .i64 a] w fun e w' => ∃ v' c, e = .returned (.tuple #[v', .bool (oneOk cs n a)]) ∧ Below w.heap.size w w' ∧ WrF 2 41 w' w.heap.size w'.heap.size v' (oneL cs n a) c := by
  have hE := OwF.empty w w.heap.size (Nat.le_refl _)
  have B0 := Lib.hid ((Below.refl w.heap.size w).alloc (Nat.le_refl _) (.cells #[] 41))
  have V0 := Lib.hid (hv.old B0.out)
  have HV := Lib.hid hv
  cases h1 : cabB cs n with
  | false =>
    have HO : Hid (oneOk cs n a = false) := Lib.hid (by simp [oneOk, h1])
    have HL : Hid (oneL cs n a = []) := Lib.hid (by unfold oneL; rw [HO.out]; rfl)
    have HE := Lib.hid hE
    clear hE hv
    go_enter Try.func39, Try.ntmps39
    go_wp2_with fail
    refine (specCableValid_is _ cs n hi _ V0.out h1).mono ?_
    rintro e w1 ⟨rfl, b1⟩
    have HE1 := Lib.hid (HE.out.below b1)
    have B1 := Lib.hid (nextW B0.out b1)
    clear b1
    go_wp2
    go_ret2
    exact ⟨_, 0, by rw [HO.out]; rfl, B1.out, by rw [HL.out]; exact HE1.out.wr (by omega)⟩
  | true =>
    by_cases ha : 0 ≤ a
    · have HO : Hid (oneOk cs n a = true) := Lib.hid (by simp [oneOk, h1, ha])
      have HL : Hid (oneL cs n a = onTo cs n a (nMl cs n)) := Lib.hid (by unfold oneL; rw [HO.out]; rfl)
      have HE := Lib.hid hE
      have hbd := milesI_bd (cs := cs) (n := n)
      obtain ⟨M, hM⟩ : ∃ M, milesI cs n = M := ⟨_, rfl⟩
      have hN : (nMl cs n : Int) = M + 1 := by rw [← hM]; unfold nMl; omega
      rw [hM] at hbd
      have HM := Lib.hid hM
      have hNl := nMl_le (cs := cs) (n := n)
      obtain ⟨N, hNe⟩ : ∃ N, nMl cs n = N := ⟨_, rfl⟩
      rw [hNe] at hN HL hNl
      have hneg : decide (a < 0) = false := decide_eq_false (by omega)
      clear hE hv hM hNe
      go_enter Try.func39, Try.ntmps39
      go_wp2_with fail
      refine (specCableValid_is _ cs n hi _ V0.out h1).mono ?_
      rintro e w1 ⟨rfl, b1⟩
      have HE1 := Lib.hid (HE.out.below b1)
      have B1 := Lib.hid (nextW B0.out b1)
      have V1 := Lib.hid (V0.out.old b1)
      clear b1 HE
      go_wp2
      clear B0 V0 hneg
      go_loopw [6, 7] (fun s i wr => ∃ k c : Nat, k ≤ N ∧ c ≤ k ∧ i = .int .i64 k ∧ Hid (Below w.heap.size w wr) ∧ Hid (OwF wr w.heap.size s (onTo cs n a k) c) ) (fun _ i _ => N - (intOf i).toNat)
      case atStart => exact ⟨0, 0, Nat.zero_le _, Nat.le_refl _, rfl, B1, HE1⟩
      case round =>
        clear B1 V1 HE1
        obtain ⟨k, c, hk, hck, rfl, hB, hO⟩ := hrel
        have hV := Lib.hid (HV.out.old hB.out)
        go_wp2_with fail
        refine (specCableMiles_b _ cs n hi _ hV.out).mono ?_
        rintro e w2 ⟨rfl, b2⟩
        rw [HM.out]
        have hB2 := Lib.hid (nextW hB.out b2)
        have hO2 := Lib.hid (hO.out.below b2)
        have hV2 := Lib.hid (hV.out.old b2)
        clear b2 hB hO hV
        by_cases hlt : k < N
        · have hkm : (k : Int) ≤ M := by omega
          obtain ⟨o1, o2⟩ := ohmsI_bd (cs := cs) (n := n) (m := k)
          have HN := Lib.hid (onTo_next cs n a k)
          obtain ⟨R, hR⟩ : ∃ R, ohmsI cs n k = R := ⟨_, rfl⟩
          rw [hR] at HN o1 o2
          have HR := Lib.hid hR
          clear hR
          go_wp2_with fail
          refine (specCableOhms_b _ (k : Int) cs n hi _ hV2.out).mono ?_
          rintro e w3 ⟨rfl, b3⟩
          rw [HR.out]
          have hB3 := Lib.hid (nextW hB2.out b3)
          have hO3 := Lib.hid (hO2.out.below b3)
          have hV3 := Lib.hid (hV2.out.old b3)
          have hs3 := hB3.out.size
          clear b3 hB2 hO2 hV2
          cases h2 : inB a R (R + 1000) with
          | false =>
            rw [h2] at HN
            go_wp2_with fail
            refine (l6In_is _ _ _ _ h2).mono ?_
            rintro e _ ⟨rfl, rfl⟩
            go_wp2
            go_roundw
            case rel => exact ⟨k + 1, c, by omega, by omega, by go_num, hB3, Lib.hid (by rw [HN.out]; exact hO3.out)⟩
            case measure => simp [intOf]; omega
          | true =>
            obtain ⟨r1, r2⟩ := inB_true.1 h2
            rw [h2] at HN
            go_wp2_with fail
            refine (l6In_is _ _ _ _ h2).mono ?_
            rintro e _ ⟨rfl, rfl⟩
            go_wp2_with (at_builtin; refine wpList_pushF hO3.out (by rfl) (by rfl) (by rfl) (by rfl) (by omega) hs3 ?_; intro v' w4 hown4 hb4 hg4; have HO4 := Lib.hid hown4; have HB4 := Lib.hid hb4; clear hown4 hb4 hg4)
            go_roundw
            case rel => exact ⟨k + 1, c + 1, by omega, by omega, by go_num, Lib.hid (hB3.out.trans HB4.out), Lib.hid (by rw [HN.out]; exact HO4.out)⟩
            case measure => simp [intOf]; omega
        · obtain rfl : N = k := by omega
          have hkm : ¬ (N : Int) ≤ M := by omega
          go_wp2
          go_ret2
          exact ⟨_, c, by rw [HO.out]; rfl, hB2.out, by rw [HL.out]; exact hO2.out.wr (by omega)⟩
    · have HO : Hid (oneOk cs n a = false) := Lib.hid (by simp [oneOk, h1]; omega)
      have HL : Hid (oneL cs n a = []) := Lib.hid (by unfold oneL; rw [HO.out]; rfl)
      have HE := Lib.hid hE
      have hneg : decide (a < 0) = true := decide_eq_true (by omega)
      clear hE hv
      go_enter Try.func39, Try.ntmps39
      go_wp2_with fail
      refine (specCableValid_is _ cs n hi _ V0.out h1).mono ?_
      rintro e w1 ⟨rfl, b1⟩
      have HE1 := Lib.hid (HE.out.below b1)
      have B1 := Lib.hid (nextW B0.out b1)
      clear b1
      go_wp2
      go_ret2
      exact ⟨_, 0, by rw [HO.out]; rfl, B1.out, by rw [HL.out]; exact HE1.out.wr (by omega)⟩

end Go.Proofs.Ytoanefccnbnkmaa
