/- Contracts: inverse; OrdersBack of the reference. -/
import Derived.Test.YtldjnfcdmhcjdaaOrd
import Derived.Test.YtldjnfcdmhcjdaaPush
import Derived.Test.YtldjnfcdmhcjdaaInvPlain
namespace Go.Proofs.Ytldjnfcdmhcjdaa
open Go.RowKit

theorem inverse_any (v : Value) (xs : List Int) (hi : Nat) (w : World) (hv : Sl w hi v xs) (h1 : ordB xs = true) :
    Calls Try.prog 58 #[v] w fun e w' => ∃ r, e = .returned r ∧ Below w.heap.size w w' ∧ Wr w' w.heap.size w'.heap.size r (invL xs) := by
  obtain ⟨ad, n, cap, rfl, hl, hn, hcap, hcap2, hc⟩ := hv
  have hin : ∀ k, k < n → 0 ≤ gi xs k ∧ gi xs k < n := fun k hk => by
    have := ordB_in h1 (i := k) (by rw [hl]; exact hk)
    rwa [hl] at this
  have HIN := Lib.hid hin
  have HL := Lib.hid hl
  have hmk := fun w => mkInts w n hn
  clear hl hin
  go_enter Try.func58, Try.ntmps58
  go_wp2
  go_loopw [11] (fun i wr => ∃ (k : Nat) (cu : Array Value), k ≤ n ∧ i = .int .i64 k ∧ Below w.heap.size w wr ∧ Row wr w.heap.size 3 cu ∧ cu.size = n ∧
      Hid (∀ t, t < k → cu[(gi xs t).toNat]? = some (.int .i64 t))) (fun i _ => n - (intOf i).toNat)
  case atStart => exact ⟨0, _, Nat.zero_le _, rfl, (Below.refl _ w).alloc (Nat.le_refl _) _, Row.new _ _ _, by simp, fun t ht => absurd ht (by omega)⟩
  case round =>
    obtain ⟨k, cu, hk, rfl, hB, hR, hsz, hno⟩ := hrel
    by_cases hlt : k < n
    · obtain ⟨b, off, rfl, hbh, hc⟩ := hc (by omega)
      have hcell := (hB.cell (p := ⟨b, off + k, none⟩) (World.block_lt_of_cell? w _ (hc k hlt))).trans (hc k hlt)
      have hg := HIN.out k hlt
      have hg0 := hg.1
      have hg1 := hg.2
      obtain ⟨u0, hcell2⟩ := hR.ex (k := (gi xs k).toNat) (by omega)
      have hfz := hR.frozen (gi xs k).toNat
      have HR := Lib.hid hR
      have HSZ := Lib.hid hsz
      clear hR hc hg hsz
      go_wp2
      go_roundw
      case rel =>
        exact ⟨k + 1, _, by omega, by go_num, hB.setCell (p := ⟨w.heap.size, (gi xs k).toNat, none⟩) (Nat.le_refl _) _, HR.out.set _ _, by simpa using HSZ.out, fun t ht => by
          by_cases htk : t = k
          · subst htk
            rw [Array.getElem?_setIfInBounds_self_of_lt (by rw [HSZ.out]; omega)]
          · have h2 := HIN.out t (by omega)
            have hne := ordB_ne h1 (i := t) (j := k) (by rw [HL.out]; omega) (by rw [HL.out]; omega) htk
            rw [Array.getElem?_setIfInBounds_ne (by omega)]
            exact hno.out t (by omega)⟩
      case measure => simp [intOf]; omega
    · obtain rfl : n = k := by omega
      go_wp2
      go_ret
      refine ⟨_, rfl, hB, ⟨_, n, n, rfl, by rw [invL_len]; exact HL.out, hn, by omega, by omega, fun _ => ⟨w.heap.size, 0, cu, rfl, Nat.le_refl _, hR.lt, hR, by omega, fun t ht => ?_⟩⟩⟩
      have h3 := inv1_spec h1 (j := t) (by rw [HL.out]; exact ht)
      rw [invL_gi (by rw [HL.out]; exact ht), Nat.zero_add]
      have h4 := hno.out (inv1 xs t) (by rw [HL.out] at h3; exact h3.1)
      rw [h3.2] at h4
      simpa using h4

theorem specOrdersBack_b (v : Value) (xs : List Int) (hi : Nat) (w : World) (hv : Sl w hi v xs) :
    Calls Try.prog 31 #[v] w fun e w' => ∃ r, e = .returned (.tuple #[r, .bool (ordB xs)]) ∧ Below w.heap.size w w' ∧ Wr w' w.heap.size w'.heap.size r (outBack xs) := by
  have hv0 := hv
  obtain ⟨ad, n, cap, rfl, hl, hn, hcap, hcap2, hc⟩ := hv
  have HV := Lib.hid hv0
  have HL := Lib.hid hl
  clear hl hv0
  cases h1 : ordB xs with
  | false =>
    go_enter Try.func31, Try.ntmps31
    go_wp2_with fail
    refine (specOrdersValid_is _ xs hi _ HV.out h1).mono ?_
    rintro e _ ⟨rfl, m, rfl⟩
    go_wp2
    go_ret2
    exact ⟨_, rfl, below_drewN ((Below.refl _ w).alloc (Nat.le_refl _) _) _, by rw [outBack, h1]; exact ((OwI.new w w.heap.size 0 #[] (Nat.le_refl _) (by unfold maxLen; omega) rfl).drewN m).wr (by simp)⟩
  | true =>
    have hin : ∀ k, k < n → 0 ≤ gi xs k ∧ gi xs k < n := fun k hk => by
      have := ordB_in h1 (i := k) (by rw [HL.out]; exact hk)
      rwa [HL.out] at this
    have HIN := Lib.hid hin
    have hmk := fun w => mkInts w n hn
    clear hin
    go_enter Try.func31, Try.ntmps31
    go_wp2_with fail
    refine (specOrdersValid_is _ xs hi _ HV.out h1).mono ?_
    rintro e _ ⟨rfl, m, rfl⟩
    go_wp2
    go_loopw [6] (fun i wr => ∃ (k : Nat) (cu : Array Value), k ≤ n ∧ i = .int .i64 k ∧ Below w.heap.size w wr ∧ Row wr w.heap.size 3 cu ∧ cu.size = n ∧
        Hid (∀ t, t < k → cu[n - 1 - (gi xs t).toNat]? = some (.int .i64 ((n : Int) - 1 - t)))) (fun i _ => n - (intOf i).toNat)
    case atStart => exact ⟨0, _, Nat.zero_le _, rfl, below_drewN ((Below.refl _ w).alloc (Nat.le_refl _) _) _, Row.new _ _ _, by simp, fun t ht => absurd ht (by omega)⟩
    case round =>
      obtain ⟨k, cu, hk, rfl, hB, hR, hsz, hno⟩ := hrel
      by_cases hlt : k < n
      · obtain ⟨b, off, rfl, hbh, hc⟩ := hc (by omega)
        have hcell := (hB.cell (p := ⟨b, off + k, none⟩) (World.block_lt_of_cell? w _ (hc k hlt))).trans (hc k hlt)
        have hg := HIN.out k hlt
        have hg0 := hg.1
        have hg1 := hg.2
        obtain ⟨u0, hcell2⟩ := hR.ex (k := n - 1 - (gi xs k).toNat) (by omega)
        have hfz := hR.frozen (n - 1 - (gi xs k).toNat)
        have hti : ((n : Int) - 1 - gi xs k).toNat = n - 1 - (gi xs k).toNat := by omega
        have HR := Lib.hid hR
        have HSZ := Lib.hid hsz
        clear hR hc hg hsz
        go_wp2
        go_roundw
        case rel =>
          exact ⟨k + 1, _, by omega, by go_num, hB.setCell (p := ⟨w.heap.size, n - 1 - (gi xs k).toNat, none⟩) (Nat.le_refl _) _, HR.out.set _ _, by simpa using HSZ.out, fun t ht => by
            by_cases htk : t = k
            · subst htk
              rw [Array.getElem?_setIfInBounds_self_of_lt (by rw [HSZ.out]; omega)]
            · have h2 := HIN.out t (by omega)
              have hne := ordB_ne h1 (i := t) (j := k) (by rw [HL.out]; omega) (by rw [HL.out]; omega) htk
              rw [Array.getElem?_setIfInBounds_ne (by omega)]
              exact hno.out t (by omega)⟩
        case measure => simp [intOf]; omega
      · obtain rfl : n = k := by omega
        go_wp2
        go_ret2
        refine ⟨_, rfl, hB, ⟨_, n, n, rfl, by rw [outBack, if_pos h1, backL_len]; exact HL.out, hn, by omega, by omega, fun _ => ⟨w.heap.size, 0, cu, rfl, Nat.le_refl _, hR.lt, hR, by omega, fun t ht => ?_⟩⟩⟩
        have h3 := inv1_spec h1 (j := n - 1 - t) (by rw [HL.out]; omega)
        rw [outBack, if_pos h1, backL_gi (by rw [HL.out]; exact ht), Nat.zero_add, HL.out]
        have h4 := hno.out (inv1 xs (n - 1 - t)) (by rw [HL.out] at h3; exact h3.1)
        rw [h3.2] at h4
        rw [show n - 1 - ((n - 1 - t : Nat) : Int).toNat = t from by omega] at h4
        exact h4

end Go.Proofs.Ytldjnfcdmhcjdaa
