/- Contracts: StowageOut of the program and of the reference. -/
import Derived.Test.YtldjnfcdmhcjdaaStow
import Derived.Test.YtldjnfcdmhcjdaaStowI
import Derived.Test.YtldjnfcdmhcjdaaBack
namespace Go.Proofs.Ytldjnfcdmhcjdaa
open Go.RowKit

def outOut (xs ts : List Int) : List Int := if stowB xs ts then outL xs ts else []

theorem specStowageOut_b (v0 v1 : Value) (xs ts : List Int) (hi0 hi1 : Nat) (w : World) (hv0 : Sl w hi0 v0 xs) (hv1 : Sl w hi1 v1 ts) :
    Calls Try.prog 44 #[v0, v1] w fun e w' => ∃ r, e = .returned (.tuple #[r, .bool (stowB xs ts)]) ∧ Below w.heap.size w w' ∧ Wr w' w.heap.size w'.heap.size r (outOut xs ts) := by
  have hv0' := hv0
  have hv1' := hv1
  obtain ⟨ad, n, cap, rfl, hl, hn, hcap, hcap2, hc⟩ := hv0
  obtain ⟨ad2, m, cap3, rfl, hl2, hn2, hcap3, hcap4, hc2⟩ := hv1
  have HV := Lib.hid hv0'
  have HV1 := Lib.hid hv1'
  have HL := Lib.hid hl
  have HL2 := Lib.hid hl2
  clear hv0' hv1' hl hl2
  cases h1 : stowB xs ts with
  | false =>
    go_enter Try.func44, Try.ntmps44
    go_wp2_with fail
    refine (specStowageValid_is _ _ xs ts _ _ _ HV.out HV1.out h1).mono ?_
    rintro e _ ⟨rfl, d, rfl⟩
    go_wp2
    go_ret2
    exact ⟨_, rfl, below_drewN ((Below.refl _ w).alloc (Nat.le_refl _) _) _, by rw [outOut, h1]; exact ((OwI.new w w.heap.size 0 #[] (Nat.le_refl _) (by unfold maxLen; omega) rfl).drewN d).wr (by simp)⟩
  | true =>
    have hst := stowB_true.1 h1
    have hox := hst.1
    have hmn : m = n := by have := hst.2.1; rw [HL.out, HL2.out] at this; exact this
    subst hmn
    have hin : ∀ k, k < m → 0 ≤ gi xs k ∧ gi xs k < m := fun k hk => by
      have := ordB_in hox (i := k) (by rw [HL.out]; exact hk)
      rwa [HL.out] at this
    have HIN := Lib.hid hin
    have hmk := fun w => mkInts w m hn
    clear hin hst
    go_enter Try.func44, Try.ntmps44
    go_wp2_with fail
    refine (specStowageValid_is _ _ xs ts _ _ _ HV.out HV1.out h1).mono ?_
    rintro e _ ⟨rfl, d, rfl⟩
    go_wp2
    go_loopw [7] (fun i wr => ∃ (k : Nat) (cu : Array Value), k ≤ m ∧ i = .int .i64 k ∧ Below w.heap.size w wr ∧ Row wr w.heap.size 3 cu ∧ cu.size = m ∧
        Hid (∀ t, t < k → cu[(gi xs t).toNat]? = some (.int .i64 (gi ts t)))) (fun i _ => m - (intOf i).toNat)
    case atStart => exact ⟨0, _, Nat.zero_le _, rfl, below_drewN ((Below.refl _ w).alloc (Nat.le_refl _) _) _, Row.new _ _ _, by simp, fun t ht => absurd ht (by omega)⟩
    case round =>
      obtain ⟨k, cu, hk, rfl, hB, hR, hsz, hno⟩ := hrel
      by_cases hlt : k < m
      · obtain ⟨b, off, rfl, hbh, hc⟩ := hc (by omega)
        obtain ⟨b2, off2, rfl, hbh2, hc2⟩ := hc2 (by omega)
        have hck := (hB.cell (p := ⟨b, off + k, none⟩) (World.block_lt_of_cell? w _ (hc k hlt))).trans (hc k hlt)
        have htk := (hB.cell (p := ⟨b2, off2 + k, none⟩) (World.block_lt_of_cell? w _ (hc2 k hlt))).trans (hc2 k hlt)
        have hg := HIN.out k hlt
        have hg0 := hg.1
        have hg1 := hg.2
        obtain ⟨u0, hcell2⟩ := hR.ex (k := (gi xs k).toNat) (by omega)
        have hfz := hR.frozen (gi xs k).toNat
        have HR := Lib.hid hR
        have HSZ := Lib.hid hsz
        clear hR hc hc2 hg hsz
        go_wp2
        go_region
        all_goals go_wp2
        all_goals go_roundw
        case rel =>
          refine ⟨k + 1, cu.setIfInBounds (gi xs k).toNat (.int .i64 (gi ts k)), by omega, by go_num, (hB.setCell (p := ⟨w.heap.size, (gi xs k).toNat, none⟩) (Nat.le_refl _) _).drew, HR.out.set _ _, by simpa using HSZ.out, fun t ht => ?_⟩
          by_cases htk' : t = k
          · subst htk'
            rw [Array.getElem?_setIfInBounds_self_of_lt (by rw [HSZ.out]; omega)]
          · have h2 := HIN.out t (by omega)
            have hne := ordB_ne hox (i := t) (j := k) (by rw [HL.out]; omega) (by rw [HL.out]; omega) htk'
            rw [Array.getElem?_setIfInBounds_ne (by omega)]
            exact hno.out t (by omega)
        case measure => simp [intOf]; omega
      · obtain rfl : m = k := by omega
        go_wp2
        go_ret2
        refine ⟨_, rfl, hB, ⟨_, m, m, rfl, by rw [outOut, if_pos h1, outL_len]; exact HL.out, hn, by omega, by omega, fun _ => ⟨w.heap.size, 0, cu, rfl, Nat.le_refl _, hR.lt, hR, by omega, fun t ht => ?_⟩⟩⟩
        have h3 := inv1_spec hox (j := t) (by rw [HL.out]; exact ht)
        rw [outOut, if_pos h1, outL_gi (by rw [HL.out]; exact ht), Nat.zero_add]
        have h4 := hno.out (inv1 xs t) (by rw [HL.out] at h3; exact h3.1)
        rw [h3.2] at h4
        simpa using h4

theorem implStowageOut_b (v0 v1 : Value) (xs ts : List Int) (hi0 hi1 : Nat) (w : World) (hv0 : Sl w hi0 v0 xs) (hv1 : Sl w hi1 v1 ts) :
    Calls Try.prog 45 #[v0, v1] w fun e w' => ∃ r, e = .returned (.tuple #[r, .bool (stowB xs ts)]) ∧ Below w.heap.size w w' ∧ Wr w' w.heap.size w'.heap.size r (outOut xs ts) := by
  have hv0' := hv0
  have hv1' := hv1
  obtain ⟨ad, n, cap, rfl, hl, hn, hcap, hcap2, hc⟩ := hv0
  obtain ⟨ad2, m, cap3, rfl, hl2, hn2, hcap3, hcap4, hc2⟩ := hv1
  have HV := Lib.hid hv0'
  have HV1 := Lib.hid hv1'
  have HL := Lib.hid hl
  have HL2 := Lib.hid hl2
  clear hv0' hv1' hl hl2
  cases h1 : stowB xs ts with
  | false =>
    go_enter Try.func45, Try.ntmps45
    go_wp2_with fail
    refine (implStowageValid_is _ _ xs ts _ _ _ HV.out HV1.out h1).mono ?_
    rintro e w1 ⟨rfl, b1⟩
    go_wp2
    go_ret2
    exact ⟨_, rfl, b1, by rw [outOut, h1]; exact Wr.nil _ _ _⟩
  | true =>
    have hst := stowB_true.1 h1
    have hox := hst.1
    have hmn : m = n := by have := hst.2.1; rw [HL.out, HL2.out] at this; exact this
    subst hmn
    have hmk := fun w => mkCapI w (m : Int) (by omega) (by omega)
    clear hst
    go_enter Try.func45, Try.ntmps45
    go_wp2_with fail
    refine (implStowageValid_is _ _ xs ts _ _ _ HV.out HV1.out h1).mono ?_
    rintro e w1 ⟨rfl, b1⟩
    have z1 := b1.size
    go_wp2_with fail
    refine (inverse_any _ xs hi0 _ ((HV.out.old b1).old ((Below.refl _ w1).alloc (Nat.le_refl _) _)) hox).mono ?_
    rintro e w2 ⟨v2, rfl, b2, r2⟩
    clear hmk
    have hnew := (OwI.new w1 w.heap.size m (Array.replicate m (.int .i64 0)) z1 (by unfold maxLen; omega) (by simp)).below b2
    simp only [World.size_alloc] at b2 r2
    have B2 : Below w.heap.size w w2 := (b1.alloc z1 _).trans (b2.mono (by omega))
    have z2 := b2.size
    obtain ⟨a2, n2, c2, rfl, q1, q2, q3, q4, q5⟩ := r2.sl
    rw [invL_len, HL.out] at q1
    subst q1
    go_wp2
    have hlo : (outL xs ts).length = m := by rw [outL_len, HL.out]
    have HLO := Lib.hid hlo
    clear hlo q2 q3 q4 q5
    go_loopw [6, 19] (fun o i wr => ∃ k : Nat, k ≤ m ∧ i = .int .i64 k ∧ Below w.heap.size w wr ∧ o = .slice (some ⟨w1.heap.size, 0, none⟩) k m ∧ OwI wr w.heap.size (.slice (some ⟨w1.heap.size, 0, none⟩) k m) ((outL xs ts).take k) ∧ Wr wr (w1.heap.size + 1) w2.heap.size (.slice a2 m c2) (invL xs)) (fun _ i _ => m - (intOf i).toNat)
    case atStart => exact ⟨0, Nat.zero_le _, rfl, B2, rfl, hnew, r2⟩
    case round =>
      obtain ⟨k, hk, rfl, hB, rfl, hown, hW⟩ := hrel
      by_cases hlt : k < m
      · obtain ⟨b2', off2, rfl, hbh2, hc2⟩ := hc2 (by omega)
        obtain ⟨a3, n3, c3, he3, p1, p2, p3, p4, p5⟩ := hW.sl
        cases he3
        obtain ⟨b3, off3, rfl, hb3, hc3⟩ := p5 (by omega)
        have hck := hc3 k hlt
        rw [invL_gi (by rw [HL.out]; exact hlt)] at hck
        have hinv := (inv1_spec hox (j := k) (by rw [HL.out]; exact hlt)).1
        rw [HL.out] at hinv
        have hti := (hB.cell (p := ⟨b2', off2 + inv1 xs k, none⟩) (World.block_lt_of_cell? w _ (hc2 _ hinv))).trans (hc2 _ hinv)
        have htl : ((outL xs ts).take k).length = k := by simp [HLO.out]; omega
        have hown' : OwI wr w.heap.size (.slice (some ⟨w1.heap.size, 0, none⟩) ((outL xs ts).take k).length m) ((outL xs ts).take k) := by rw [htl]; exact hown
        have hnext : (outL xs ts).take (k + 1) = (outL xs ts).take k ++ [gi ts (inv1 xs k)] := by
          rw [List.take_succ_eq_append_getElem (by rw [HLO.out]; exact hlt)]
          congr 2
          rw [← outL_gi (by rw [HL.out]; exact hlt), gi_eq (by rw [HLO.out]; exact hlt)]
        have HN := Lib.hid hnext
        have HTL := Lib.hid htl
        have HO := Lib.hid hown'
        have HW := Lib.hid hW
        have zB := hB.size
        clear hnext htl hown' hown hW hc3 hc2 p1 p2 p3 p4 p5
        go_wp2_with (at_builtin; refine wpList_push_fits (g := w1.heap.size) (cap := m) HO.out (by rfl) (by rfl) (by rw [HTL.out]; rfl) (by rfl) (by rw [HTL.out]; omega) ?_; intro w4 hown4 hg4; rw [HTL.out] at hown4 ⊢)
        go_roundw
        case rel =>
          exact ⟨k + 1, by omega, by go_num, hB.grown hg4 zB (fun j e => by cases e; exact z1), rfl, by rw [HN.out]; exact hown4, HW.out.grown hg4 (by omega)⟩
        case measure => simp [intOf]; omega
      · obtain rfl : m = k := by omega
        go_wp2
        go_ret2
        refine ⟨_, rfl, hB, ?_⟩
        rw [outOut, if_pos h1]
        have h5 : (outL xs ts).take m = outL xs ts := List.take_of_length_le (by rw [HLO.out]; omega)
        rw [h5] at hown
        have h6 : OwI wr w.heap.size (.slice (some ⟨w1.heap.size, 0, none⟩) m m) (outL xs ts) := hown
        have := h6.wr (by rw [HLO.out]; omega)
        exact this

end Go.Proofs.Ytldjnfcdmhcjdaa
