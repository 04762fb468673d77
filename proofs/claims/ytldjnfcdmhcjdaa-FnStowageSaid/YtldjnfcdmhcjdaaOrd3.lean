/- Contracts: OrdersDrop of the program and of the reference. -/
import Derived.Test.YtldjnfcdmhcjdaaOrd
import Derived.Test.YtldjnfcdmhcjdaaPush
namespace Go.Proofs.Ytldjnfcdmhcjdaa
open Go.RowKit

def okDrop (xs : List Int) (i : Int) : Bool := ordB xs && inB i 0 ((xs.length : Int) - 1)
def outDrop (xs : List Int) (i : Int) : List Int := if okDrop xs i then dropTo xs i.toNat xs.length else []

theorem implOrdersDrop_b (v : Value) (i : Int) (xs : List Int) (hi : Nat) (w : World) (hv : Sl w hi v xs) (_ : -9223372036854775808 ≤ i ∧ i ≤ 9223372036854775807) :
    Calls Try.prog 28 #[v, .int .i64 i] w fun e w' => ∃ r, e = .returned (.tuple #[r, .bool (okDrop xs i)]) ∧ Below w.heap.size w w' ∧ Wr w' w.heap.size w'.heap.size r (outDrop xs i) := by
  have hv0 := hv
  obtain ⟨ad, n, cap, rfl, hl, hn, hcap, hcap2, hc⟩ := hv
  have HV := Lib.hid hv0
  have HL := Lib.hid hl
  clear hv0 hl
  cases h1 : ordB xs with
  | false =>
    go_enter Try.func28, Try.ntmps28
    go_wp2_with fail
    refine (implOrdersValid_is _ xs hi _ HV.out h1).mono ?_
    rintro e _ ⟨rfl, rfl⟩
    go_wp2
    go_ret2
    have hk : okDrop xs i = false := by simp [okDrop, h1]
    exact ⟨_, by rw [hk]; rfl, Below.refl _ _, by rw [outDrop, hk]; exact Wr.nil _ _ _⟩
  | true =>
    cases h2 : inB i 0 ((n : Int) - 1) with
    | false =>
      go_enter Try.func28, Try.ntmps28
      go_wp2_with fail
      refine (implOrdersValid_is _ xs hi _ HV.out h1).mono ?_
      rintro e _ ⟨rfl, rfl⟩
      go_wp2_with fail
      refine (within_is _ _ _ _ h2).mono ?_
      rintro e _ ⟨rfl, rfl⟩
      go_wp2
      go_ret2
      have hk : okDrop xs i = false := by simp [okDrop, HL.out, h2]
      exact ⟨_, by rw [hk]; rfl, Below.refl _ _, by rw [outDrop, hk]; exact Wr.nil _ _ _⟩
    | true =>
      have hk : okDrop xs i = true := by simp [okDrop, HL.out, h1, h2]
      have ho : outDrop xs i = dropTo xs i.toNat n := by simp [outDrop, hk, HL.out]
      have HK := Lib.hid hk
      have HO := Lib.hid ho
      clear hk ho
      have h2' := inB_true.1 h2
      obtain ⟨i', rfl⟩ := Int.eq_ofNat_of_zero_le h2'.1
      have hilt : i' < n := by omega
      have h10 : n ≤ 10 := by have := (ordB_true.1 h1).1; rw [HL.out] at this; exact this
      obtain ⟨b, off, rfl, hbh, hc⟩ := hc (by omega)
      have hci := hc i' hilt
      have hbw := World.block_lt_of_cell? w _ hci
      simp only at hbw
      have hin : ∀ k, k < n → 0 ≤ gi xs k ∧ gi xs k < n := fun k hk => by
        have := ordB_in h1 (i := k) (by rw [HL.out]; exact hk)
        rwa [HL.out] at this
      have HIN := Lib.hid hin
      have hc' := Lib.hid hc
      clear h2' hin hc
      have hmk := fun w => mkCapI w ((n : Int) - 1) (by omega) (by omega)
      go_enter Try.func28, Try.ntmps28
      go_wp2_with fail
      refine (implOrdersValid_is _ xs hi _ HV.out h1).mono ?_
      rintro e _ ⟨rfl, rfl⟩
      go_wp2_with fail
      refine (within_is _ _ _ _ h2).mono ?_
      rintro e _ ⟨rfl, rfl⟩
      go_wp2
      clear hmk
      go_loopw [6, 26] (fun o j wr => ∃ k : Nat, k ≤ n ∧ j = .int .i64 k ∧ OwI wr w.heap.size o (dropTo xs i' k) ∧ Below w.heap.size w wr) (fun _ j _ => n - (intOf j).toNat)
      case atStart => exact ⟨0, Nat.zero_le _, rfl, OwI.new _ _ _ _ (Nat.le_refl _) (by unfold maxLen; omega) (by simp), (Below.refl _ _).alloc (Nat.le_refl _) _⟩
      case round =>
        obtain ⟨k, hk, rfl, hown, hB⟩ := hrel
        have hdl := dropTo_le xs i' k
        by_cases hlt : k < n
        · have hck := (hB.cell (p := ⟨b, off + k, none⟩) hbw).trans (hc'.out k hlt)
          have hci2 := (hB.cell (p := ⟨b, off + i', none⟩) hbw).trans hci
          have hgk := HIN.out k hlt
          have hs1 := hB.size
          by_cases hki : k = i'
          · subst hki
            have hd : dropTo xs k (k + 1) = dropTo xs k k := by simp [dropTo]
            have HD := Lib.hid hd
            clear hd
            go_wp2
            go_roundw
            case rel => exact ⟨k + 1, by omega, by go_num, by rw [HD.out]; exact hown, hB⟩
            case measure => simp [intOf]; omega
          · have hne : ((k : Int) == (i' : Int)) = false := by simp; omega
            by_cases hg : gi xs i' < gi xs k
            · have hd : dropTo xs i' (k + 1) = dropTo xs i' k ++ [gi xs k - 1] := by simp [dropTo, hki, dropV, hg]
              have HD := Lib.hid hd
              clear hd hki
              go_wp2_with (at_builtin; refine wpList_push hown (by rfl) (by rfl) (by rfl) (by rfl) (by omega) hs1 ?_; intro v' w1 hown1 hb1)
              go_roundw
              case rel => exact ⟨k + 1, by omega, by go_num, by rw [HD.out]; exact hown1, hB.trans hb1⟩
              case measure => simp [intOf]; omega
            · have hd : dropTo xs i' (k + 1) = dropTo xs i' k ++ [gi xs k] := by simp [dropTo, hki, dropV, hg]
              have HD := Lib.hid hd
              clear hd hki
              go_wp2_with (at_builtin; refine wpList_push hown (by rfl) (by rfl) (by rfl) (by rfl) (by omega) hs1 ?_; intro v' w1 hown1 hb1)
              go_roundw
              case rel => exact ⟨k + 1, by omega, by go_num, by rw [HD.out]; exact hown1, hB.trans hb1⟩
              case measure => simp [intOf]; omega
        · obtain rfl : n = k := by omega
          go_wp2
          go_ret2
          exact ⟨_, by rw [HK.out]; rfl, hB, by rw [HO.out]; exact hown.wr (by simpa using (by omega : (dropTo xs i' n).length ≤ 1048576))⟩

theorem specOrdersDrop_b (v : Value) (i : Int) (xs : List Int) (hi : Nat) (w : World) (hv : Sl w hi v xs) (_ : -9223372036854775808 ≤ i ∧ i ≤ 9223372036854775807) :
    Calls Try.prog 27 #[v, .int .i64 i] w fun e w' => ∃ r, e = .returned (.tuple #[r, .bool (okDrop xs i)]) ∧ Below w.heap.size w w' ∧ Wr w' w.heap.size w'.heap.size r (outDrop xs i) := by
  have hv0 := hv
  obtain ⟨ad, n, cap, rfl, hl, hn, hcap, hcap2, hc⟩ := hv
  have HV := Lib.hid hv0
  have HL := Lib.hid hl
  clear hv0 hl
  have hnew := OwI.new w w.heap.size 0 #[] (Nat.le_refl _) (by unfold maxLen; omega) rfl
  have hbel : Below w.heap.size w (w.alloc (.cells #[] 3)) := (Below.refl _ w).alloc (Nat.le_refl _) _
  have hsl : Sl (w.alloc (.cells #[] 3)) hi (.slice ad n cap) xs := HV.out.old hbel
  cases h1 : ordB xs with
  | false =>
    go_enter Try.func27, Try.ntmps27
    go_wp2_with fail
    refine (specOrdersValid_is _ xs hi _ hsl h1).mono ?_
    rintro e _ ⟨rfl, m, rfl⟩
    go_wp2
    go_ret2
    have hk : okDrop xs i = false := by simp [okDrop, h1]
    exact ⟨_, by rw [hk]; rfl, below_drewN hbel _, by rw [outDrop, hk]; exact hnew.wr (by simp)⟩
  | true =>
    cases h2 : inB i 0 ((n : Int) - 1) with
    | false =>
      go_enter Try.func27, Try.ntmps27
      go_wp2_with fail
      refine (specOrdersValid_is _ xs hi _ hsl h1).mono ?_
      rintro e _ ⟨rfl, m, rfl⟩
      go_wp2_with fail
      refine (l6In_is _ _ _ _ h2).mono ?_
      rintro e _ ⟨rfl, rfl⟩
      go_wp2
      go_ret2
      have hk : okDrop xs i = false := by simp [okDrop, HL.out, h2]
      exact ⟨_, by rw [hk]; rfl, below_drewN hbel _, by rw [outDrop, hk]; exact hnew.wr (by simp)⟩
    | true =>
      have hk : okDrop xs i = true := by simp [okDrop, HL.out, h1, h2]
      have ho : outDrop xs i = dropTo xs i.toNat n := by simp [outDrop, hk, HL.out]
      have HK := Lib.hid hk
      have HO := Lib.hid ho
      clear hk ho
      have h2' := inB_true.1 h2
      obtain ⟨i', rfl⟩ := Int.eq_ofNat_of_zero_le h2'.1
      have hilt : i' < n := by omega
      have h10 : n ≤ 10 := by have := (ordB_true.1 h1).1; rw [HL.out] at this; exact this
      obtain ⟨b, off, rfl, hbh, hc⟩ := hc (by omega)
      have hci := hc i' hilt
      have hbw := World.block_lt_of_cell? w _ hci
      simp only at hbw
      have hin : ∀ k, k < n → 0 ≤ gi xs k ∧ gi xs k < n := fun k hk => by
        have := ordB_in h1 (i := k) (by rw [HL.out]; exact hk)
        rwa [HL.out] at this
      have HIN := Lib.hid hin
      have hc' := Lib.hid hc
      have HNEW := Lib.hid hnew
      have HBEL := Lib.hid hbel
      clear h2' hin hc hnew hbel
      go_enter Try.func27, Try.ntmps27
      go_wp2_with fail
      refine (specOrdersValid_is _ xs hi _ hsl h1).mono ?_
      rintro e _ ⟨rfl, m, rfl⟩
      go_wp2_with fail
      refine (l6In_is _ _ _ _ h2).mono ?_
      rintro e _ ⟨rfl, rfl⟩
      go_wp2
      go_loopw [6, 7] (fun o j wr => ∃ k : Nat, k ≤ n ∧ j = .int .i64 k ∧ OwI wr w.heap.size o (dropTo xs i' k) ∧ Below w.heap.size w wr) (fun _ j _ => n - (intOf j).toNat)
      case atStart => exact ⟨0, Nat.zero_le _, rfl, HNEW.out.drewN _, below_drewN HBEL.out _⟩
      case round =>
        obtain ⟨k, hk, rfl, hown, hB⟩ := hrel
        have hdl := dropTo_le xs i' k
        by_cases hlt : k < n
        · have hck := (hB.cell (p := ⟨b, off + k, none⟩) hbw).trans (hc'.out k hlt)
          have hci2 := (hB.cell (p := ⟨b, off + i', none⟩) hbw).trans hci
          have hgk := HIN.out k hlt
          have hs1 := hB.size
          by_cases hki : k = i'
          · subst hki
            have hd : dropTo xs k (k + 1) = dropTo xs k k := by simp [dropTo]
            have HD := Lib.hid hd
            clear hd
            go_wp2
            go_roundw
            case rel => exact ⟨k + 1, by omega, by go_num, by rw [HD.out]; exact hown, hB⟩
            case measure => simp [intOf]; omega
          · have hne : ((k : Int) == (i' : Int)) = false := by simp; omega
            by_cases hg : gi xs i' < gi xs k
            · have hd : dropTo xs i' (k + 1) = dropTo xs i' k ++ [gi xs k - 1] := by simp [dropTo, hki, dropV, hg]
              have HD := Lib.hid hd
              clear hd hki
              go_wp2
              go_quiet (fail)
              go_wp2_with (at_builtin; refine wpList_push (hown.drewN _) (by rfl) (by rfl) (by rfl) (by rfl) (by omega) hs1 ?_; intro v' w1 hown1 hb1)
              go_roundw
              case rel => exact ⟨k + 1, by omega, by go_num, by rw [HD.out]; exact hown1, (below_drewN hB _).trans hb1⟩
              case measure => simp [intOf]; omega
            · have hd : dropTo xs i' (k + 1) = dropTo xs i' k ++ [gi xs k] := by simp [dropTo, hki, dropV, hg]
              have hg' : decide (gi xs i' < gi xs k) = false := by simpa using hg
              have HD := Lib.hid hd
              clear hd hki
              go_wp2
              go_quiet (fail)
              go_wp2_with (at_builtin; refine wpList_push (hown.drewN _) (by rfl) (by rfl) (by rfl) (by rfl) (by omega) hs1 ?_; intro v' w1 hown1 hb1)
              go_roundw
              case rel => exact ⟨k + 1, by omega, by go_num, by rw [HD.out]; exact hown1, (below_drewN hB _).trans hb1⟩
              case measure => simp [intOf]; omega
        · obtain rfl : n = k := by omega
          go_wp2
          go_ret2
          exact ⟨_, by rw [HK.out]; rfl, hB, by rw [HO.out]; exact hown.wr (by simpa using (by omega : (dropTo xs i' n).length ≤ 1048576))⟩

end Go.Proofs.Ytldjnfcdmhcjdaa
