/- Contracts: l5Longest, OrdersLongest of the reference and of the program. -/
import Derived.Test.YtldjnfcdmhcjdaaOrd
import Derived.Test.YtldjnfcdmhcjdaaPush
import Derived.Test.YtldjnfcdmhcjdaaLongPlain
import Derived.BigRegion
namespace Go.Proofs.Ytldjnfcdmhcjdaa
open Go.RowKit

theorem l5Longest_any (v : Value) (xs : List Int) (hi : Nat) (w : World) (hv : Sl w hi v xs) :
    Calls Try.prog 62 #[v] w fun e w' => ∃ r, e = .returned r ∧ Below w.heap.size w w' ∧ Wr w' w.heap.size w'.heap.size r (lgs xs) := by
  obtain ⟨ad, n, cap, rfl, hl, hn, hcap, hcap2, hc⟩ := hv
  have HL := Lib.hid hl
  clear hl
  have hmk := fun w => mkInts w n hn
  go_enter Try.func62, Try.ntmps62
  go_wp2
  clear hmk
  go_loopw [4] (fun i wr => ∃ (k : Nat) (cu : Array Value), k ≤ n ∧ i = .int .i64 ((k : Int) - 1) ∧ Below w.heap.size w wr ∧ Row wr w.heap.size 3 cu ∧ n ≤ cu.size ∧
      Hid (∀ t, k ≤ t → t < n → cu[t]? = some (.int .i64 (lg xs t : Int)))) (fun i _ => (intOf i + 1).toNat)
  case atStart => exact ⟨n, _, Nat.le_refl _, rfl, (Below.refl _ w).alloc (Nat.le_refl _) _, Row.new _ _ _, by simp, fun t ht h2 => absurd ht (by omega)⟩
  case round =>
    obtain ⟨k, cu, hk, rfl, hB, hR, hsz, hno⟩ := hrel
    by_cases h0 : k = 0
    · subst h0
      go_wp2
      go_ret
      exact ⟨_, rfl, hB, ⟨_, n, n, rfl, by rw [lgs_len, HL.out], hn, by omega, by omega, fun _ => ⟨w.heap.size, 0, cu, rfl, Nat.le_refl _, hR.lt, hR, by omega, fun t ht => by
        rw [lgs_gi (by rw [HL.out]; exact ht)]
        simpa using hno.out t (Nat.zero_le _) ht⟩⟩⟩
    · obtain ⟨p, rfl⟩ : ∃ p, k = p + 1 := ⟨k - 1, by omega⟩
      obtain ⟨b, off, rfl, hbh, hc⟩ := hc (by omega)
      have hbw := World.block_lt_of_cell? w _ (hc p (by omega))
      simp only at hbw
      have hcp := hc p (by omega)
      have hc' := Lib.hid hc
      have he1 : ((p + 1 : Nat) : Int) - 1 = (p : Int) := by omega
      have hcell : wr.cell? ⟨w.heap.size, p, none⟩ = some (cu[p]'(by omega)) := by rw [hR.cell]; simp
      have hfz := hR.frozen p
      have HR := Lib.hid hR
      clear hR hc
      rw [he1]
      clear he1
      go_wp2
      clear hcell hfz
      go_loopw [5] (fun i wr => ∃ (j : Nat) (cu : Array Value), p + 1 + j ≤ n ∧ i = .int .i64 ((p + 1 + j : Nat) : Int) ∧ Below w.heap.size w wr ∧ Row wr w.heap.size 3 cu ∧ n ≤ cu.size ∧
          cu[p]? = some (.int .i64 (accL xs (lg xs) p j : Int)) ∧ Hid (∀ t, p + 1 ≤ t → t < n → cu[t]? = some (.int .i64 (lg xs t : Int)))) (fun i _ => n - (intOf i).toNat)
      case atStart => exact ⟨0, _, by omega, by go_num, hB.setCell (p := ⟨w.heap.size, p, none⟩) (Nat.le_refl _) _, HR.out.set _ _, by simpa using hsz, by
          rw [Array.getElem?_setIfInBounds_self_of_lt (by omega)]; rfl, fun t ht h2 => by
          rw [Array.getElem?_setIfInBounds_ne (by omega)]
          exact hno.out t ht h2⟩
      case round =>
        clear hno HR hB
        obtain ⟨j, cu, hj, rfl, hB, hR, hsz, hcu, hno⟩ := hrel
        by_cases hlt : p + 1 + j < n
        · have hcp2 := (hB.cell (p := ⟨b, off + p, none⟩) hbw).trans hcp
          have hcq := (hB.cell (p := ⟨b, off + (p + 1 + j), none⟩) hbw).trans (hc'.out _ hlt)
          by_cases hg : gi xs p < gi xs (p + 1 + j)
          · have hcell : wr.cell? ⟨w.heap.size, p, none⟩ = some (.int .i64 (accL xs (lg xs) p j : Int)) := by rw [hR.cell]; exact hcu
            have hcell2 : wr.cell? ⟨w.heap.size, p + 1 + j, none⟩ = some (.int .i64 (lg xs (p + 1 + j) : Int)) := by rw [hR.cell]; exact hno.out _ (by omega) hlt
            have hfz := hR.frozen p
            have hs : accL xs (lg xs) p (j + 1) = max (accL xs (lg xs) p j) (lg xs (p + 1 + j) + 1) := by simp [accL, hg]
            have hle := lg_le xs (p + 1 + j) (by rw [HL.out]; exact hlt)
            rw [HL.out] at hle
            have HS := Lib.hid hs
            have HR := Lib.hid hR
            have HCU := Lib.hid hcu
            have hw1 : IntKind.i64.wrap (1 + (lg xs (p + 1 + j) : Int)) = 1 + (lg xs (p + 1 + j) : Int) := IntWalk.i64_in _ (by omega)
            clear hs hR hcu
            go_wp2
            go_quiet (fail)
            go_wp2
            have hR2 : Row (wr.drewN nq) w.heap.size 3 cu := HR.out
            have hB2 : Below w.heap.size w (wr.drewN nq) := below_drewN hB _
            have c1 : (wr.drewN nq).cell? ⟨w.heap.size, p, none⟩ = some (.int .i64 (accL xs (lg xs) p j : Int)) := hcell
            have c2 : (wr.drewN nq).cell? ⟨w.heap.size, p + 1 + j, none⟩ = some (.int .i64 (lg xs (p + 1 + j) : Int)) := hcell2
            have c3 : (wr.drewN nq).frozen? ⟨w.heap.size, p, none⟩ = false := hfz
            revert hR2 hB2 c1 c2 c3
            generalize wr.drewN nq = w2
            intro hR2 hB2 c1 c2 c3
            have HR2 := Lib.hid hR2
            have HB2 := Lib.hid hB2
            clear hcell hcell2 hfz hcp2 hcq HR hB hR2 hB2
            go_region
            clear c1 c2 c3
            have hv : (if (accL xs (lg xs) p j : Int) < 1 + (lg xs (p + 1 + j) : Int) then 1 + (lg xs (p + 1 + j) : Int) else (accL xs (lg xs) p j : Int)) = (accL xs (lg xs) p (j + 1) : Int) := by
              rw [HS.out]; split <;> omega
            rw [hv]
            clear hv hw1
            go_wp2
            go_roundw
            case rel => exact ⟨j + 1, _, by omega, by go_num, below_drewN (HB2.out.setCell (p := ⟨w.heap.size, p, none⟩) (Nat.le_refl _) _) 1, HR2.out.set _ _, by simpa using hsz, by
              rw [Array.getElem?_setIfInBounds_self_of_lt (by omega)], fun t ht h2 => by
              rw [Array.getElem?_setIfInBounds_ne (by omega)]
              exact hno.out t ht h2⟩
            case measure => simp [intOf]; omega
          · have hs : accL xs (lg xs) p (j + 1) = accL xs (lg xs) p j := by simp [accL, hg]
            have hg' : decide (gi xs p < gi xs (p + 1 + j)) = false := by simpa using hg
            have HS := Lib.hid hs
            have HR := Lib.hid hR
            have HCU := Lib.hid hcu
            clear hs hR hcu
            go_wp2
            go_quiet (fail)
            go_wp2
            go_roundw
            case rel => exact ⟨j + 1, _, by omega, by go_num, below_drewN hB _, HR.out, hsz, by rw [HS.out]; exact HCU.out, fun t ht h2 => hno.out t ht h2⟩
            case measure => simp [intOf]; omega
        · obtain rfl : n = p + 1 + j := by omega
          have hf := lg_eq xs p (by rw [HL.out]; omega)
          rw [HL.out, show p + 1 + j - 1 - p = j by omega] at hf
          have HF := Lib.hid hf
          have HR := Lib.hid hR
          clear hf hR
          go_wp2
          go_roundw
          case rel => exact ⟨p, _, by omega, by go_num, hB, HR.out, hsz, fun t ht h2 => by
            by_cases e : t = p
            · subst e; rw [HF.out]; exact hcu
            · exact hno.out t (by omega) h2⟩
          case measure => simp [intOf]

end Go.Proofs.Ytldjnfcdmhcjdaa
