/- Contracts: StowageTanks and StowageMost of the reference; countsOf. -/
import Derived.Test.YtldjnfcdmhcjdaaStow
import Derived.Test.YtldjnfcdmhcjdaaCntPlain
import Derived.Test.YtldjnfcdmhcjdaaPush
namespace Go.Proofs.Ytldjnfcdmhcjdaa
open Go.RowKit

theorem specStowageTanks_any (v0 v1 : Value) (xs ts : List Int) (hi0 hi1 : Nat) (w : World) (hv0 : Sl w hi0 v0 xs) (hv1 : Sl w hi1 v1 ts) :
    Calls Try.prog 40 #[v0, v1] w fun e w' => e = .returned (.int .i64 (tanksI xs ts)) ∧ Q w w' := by
  have hv1' := hv1
  obtain ⟨ad2, m, cap3, rfl, hl2, hn2, hcap3, hcap4, hc2⟩ := hv1
  have HV1 := Lib.hid hv1'
  have HL2 := Lib.hid hl2
  clear hv1' hl2
  cases h1 : stowB xs ts with
  | false =>
    go_enter Try.func40, Try.ntmps40
    go_wp2_with fail
    refine (specStowageValid_is _ _ xs ts _ _ _ hv0 HV1.out h1).mono ?_
    rintro e _ ⟨rfl, d, rfl⟩
    go_wp2
    go_ret
    exact ⟨by simp [tanksI, h1], _, rfl⟩
  | true =>
    have hst := (stowB_true.1 h1).2.2
    rw [HL2.out] at hst
    have hin : ∀ i, i < m → 0 ≤ gi ts i ∧ gi ts i ≤ 4 := fun i hi => (hst i hi).1
    have HIN := Lib.hid hin
    clear hst hin
    go_enter Try.func40, Try.ntmps40
    go_wp2_with fail
    refine (specStowageValid_is _ _ xs ts _ _ _ hv0 HV1.out h1).mono ?_
    rintro e _ ⟨rfl, d, rfl⟩
    go_wp2
    go_loopw [5, 6] (fun c i wr => ∃ k : Nat, k ≤ m ∧ i = .int .i64 k ∧ c = .int .i64 (newTo ts k : Int) ∧ Q w wr) (fun _ i _ => m - (intOf i).toNat)
    case atStart => exact ⟨0, Nat.zero_le _, rfl, rfl, _, rfl⟩
    case round =>
      obtain ⟨k, hk, rfl, rfl, d2, rfl⟩ := hrel
      have hnl := newTo_le ts k
      by_cases hlt : k < m
      · obtain ⟨b, off, rfl, hbh, hc2⟩ := hc2 (by omega)
        have hck := hc2 k hlt
        clear hc2
        by_cases hex : ∃ j, j < k ∧ gi ts j = gi ts k
        · have hh : hasB (ts.take k) (gi ts k) = true := by
            obtain ⟨j, hj, he⟩ := hex
            exact hasB_take_yes (by rw [HL2.out]; omega) hj he
          have hs : newTo ts (k + 1) = newTo ts k := by simp only [newTo]; rw [if_pos hex]; rfl
          have HS := Lib.hid hs
          clear hs hex
          go_wp2
          go_quiet ((go_at_call 53; exact quietS' (l4Has_is _ _ _ _ _ ((HV1.out.cut (by omega)).drewN _) hh)))
          go_wp2
          go_roundw
          case rel => exact ⟨k + 1, by omega, by go_num, by rw [HS.out], by first | exact ⟨_, rfl⟩ | exact Q.more _ _⟩
          case measure => simp [intOf]; omega
        · have hh : hasB (ts.take k) (gi ts k) = false := hasB_take_no (by rw [HL2.out]; omega) (fun j hj he => hex ⟨j, hj, he⟩)
          have hs : newTo ts (k + 1) = newTo ts k + 1 := by simp only [newTo]; rw [if_neg hex]
          have HS := Lib.hid hs
          clear hs hex
          go_wp2
          go_quiet ((go_at_call 53; exact quietS' (l4Has_is _ _ _ _ _ ((HV1.out.cut (by omega)).drewN _) hh)))
          go_wp2
          go_roundw
          case rel => exact ⟨k + 1, by omega, by go_num, by rw [HS.out]; go_num, by first | exact ⟨_, rfl⟩ | exact Q.more _ _⟩
          case measure => simp [intOf]; omega
      · obtain rfl : m = k := by omega
        go_wp2
        go_ret
        exact ⟨by simp [tanksI, h1, HL2.out, newTo_used HIN.out], _, rfl⟩

theorem specStowageMost_any (v0 v1 : Value) (xs ts : List Int) (hi0 hi1 : Nat) (w : World) (hv0 : Sl w hi0 v0 xs) (hv1 : Sl w hi1 v1 ts) :
    Calls Try.prog 42 #[v0, v1] w fun e w' => e = .returned (.int .i64 (mostI xs ts)) ∧ Q w w' := by
  have hv1' := hv1
  obtain ⟨ad2, m, cap3, rfl, hl2, hn2, hcap3, hcap4, hc2⟩ := hv1
  have HV1 := Lib.hid hv1'
  have HL2 := Lib.hid hl2
  clear hv1' hl2
  cases h1 : stowB xs ts with
  | false =>
    go_enter Try.func42, Try.ntmps42
    go_wp2_with fail
    refine (specStowageValid_is _ _ xs ts _ _ _ hv0 HV1.out h1).mono ?_
    rintro e _ ⟨rfl, d, rfl⟩
    go_wp2
    go_ret
    exact ⟨by simp [mostI, h1], _, rfl⟩
  | true =>
    go_enter Try.func42, Try.ntmps42
    go_wp2_with fail
    refine (specStowageValid_is _ _ xs ts _ _ _ hv0 HV1.out h1).mono ?_
    rintro e _ ⟨rfl, d, rfl⟩
    go_wp2
    go_loop [5, 6] (fun c i => ∃ t : Nat, t ≤ 5 ∧ i = .int .i64 t ∧ c = .int .i64 (maxTo (fun t => cnt ts (t : Int) m) t : Int)) (fun _ i => 5 - (intOf i).toNat)
    case atStart => exact ⟨0, Nat.zero_le _, rfl, rfl⟩
    case round =>
      obtain ⟨t, ht, rfl, rfl⟩ := hrel
      have hml := maxTo_le (f := fun t => cnt ts (t : Int) m) (b := m) (fun t => cnt_le ts t m) t
      by_cases hlt : t < 5
      · go_wp2
        go_loop [7, 8] (fun c i => ∃ k : Nat, k ≤ m ∧ i = .int .i64 k ∧ c = .int .i64 (cnt ts (t : Int) k : Int)) (fun _ i => m - (intOf i).toNat)
        case atStart => exact ⟨0, Nat.zero_le _, rfl, rfl⟩
        case round =>
          obtain ⟨k, hk, rfl, rfl⟩ := hrel
          have hcl := cnt_le ts (t : Int) k
          by_cases hklt : k < m
          · obtain ⟨b, off, rfl, hbh, hc2⟩ := hc2 (by omega)
            have hck := hc2 k hklt
            clear hc2
            by_cases he : gi ts k = (t : Int)
            · have hb : (gi ts k == (t : Int)) = true := by simp [he]
              have hs : cnt ts (t : Int) (k + 1) = cnt ts (t : Int) k + 1 := by simp [cnt, he]
              have HS := Lib.hid hs
              clear hs he
              go_wp2
              go_round
              case rel => exact ⟨k + 1, by omega, by go_num, by rw [HS.out]; go_num⟩
              case measure => simp [intOf]; omega
            · have hb : (gi ts k == (t : Int)) = false := by simp [he]
              have hs : cnt ts (t : Int) (k + 1) = cnt ts (t : Int) k := by simp [cnt, he]
              have HS := Lib.hid hs
              clear hs he
              go_wp2
              go_round
              case rel => exact ⟨k + 1, by omega, by go_num, by rw [HS.out]⟩
              case measure => simp [intOf]; omega
          · obtain rfl : m = k := by omega
            go_wp2
            go_round
            case rel => exact ⟨t + 1, by omega, by go_num, by simp only [maxTo]; congr 1; omega⟩
            case measure => simp [intOf]; omega
      · obtain rfl : t = 5 := by omega
        go_wp2
        go_ret
        exact ⟨by simp [mostI, h1, HL2.out], _, rfl⟩

/-- The counts of the five tanks. -/
def countsV (ts : List Int) (k : Nat) : Array Value := #[.int .i64 (cnt ts 0 k : Int), .int .i64 (cnt ts 1 k : Int), .int .i64 (cnt ts 2 k : Int), .int .i64 (cnt ts 3 k : Int), .int .i64 (cnt ts 4 k : Int)]

theorem countsOf_any (v : Value) (ts : List Int) (hi : Nat) (w : World) (hv : Sl w hi v ts) (hin : ∀ i, i < ts.length → 0 ≤ gi ts i ∧ gi ts i ≤ 4) :
    Calls Try.prog 66 #[v] w fun e w' => e = .returned (.agg (countsV ts ts.length)) ∧ Below w.heap.size w w' := by
  obtain ⟨ad, m, cap, rfl, hl, hn, hcap, hcap2, hc⟩ := hv
  rw [hl] at hin ⊢
  have HIN := Lib.hid hin
  clear hin hl
  go_enter Try.func66, Try.ntmps66
  go_wp2
  go_loopw [8] (fun i wr => ∃ (k : Nat) (cu : Array Value), k ≤ m ∧ i = .int .i64 k ∧ Below w.heap.size w wr ∧ w.heap.size + 1 < wr.heap.size ∧ Row wr w.heap.size 58 #[.int .i64 0, .int .i64 0, .int .i64 0, .int .i64 0, .int .i64 0] ∧ Row wr (w.heap.size + 1) 58 cu ∧ cu.size = 5 ∧
      (∀ t : Nat, t < 5 → cu[t]? = some (.int .i64 (cnt ts (t : Int) k : Int)))) (fun i _ => m - (intOf i).toNat)
  case atStart =>
    refine ⟨0, #[.int .i64 0, .int .i64 0, .int .i64 0, .int .i64 0, .int .i64 0], Nat.zero_le _, rfl, ((Below.refl _ w).alloc (Nat.le_refl _) _).alloc (by simp) _, by simp, ?_, ?_, rfl, fun t ht => ?_⟩
    · exact (Row.new w _ _).old ((Below.refl _ _).alloc (Nat.le_refl _) _)
    · have := Row.new (w.alloc (.cells #[.int .i64 0, .int .i64 0, .int .i64 0, .int .i64 0, .int .i64 0] 58)) #[.int .i64 0, .int .i64 0, .int .i64 0, .int .i64 0, .int .i64 0] 58
      rw [World.size_alloc] at this
      exact this
    · match t, ht with
      | 0, _ => rfl
      | 1, _ => rfl
      | 2, _ => rfl
      | 3, _ => rfl
      | 4, _ => rfl
  case round =>
    obtain ⟨k, cu, hk, rfl, hB, hZ, hR0, hR, hcs, hcu⟩ := hrel
    by_cases hlt : k < m
    · obtain ⟨b, off, rfl, hbh, hc⟩ := hc (by omega)
      have hck := (hB.cell (p := ⟨b, off + k, none⟩) (World.block_lt_of_cell? w _ (hc k hlt))).trans (hc k hlt)
      have hg := HIN.out k hlt
      obtain ⟨T, hTe⟩ := Int.eq_ofNat_of_zero_le hg.1
      have hT5 : T < 5 := by omega
      rw [hTe] at hck
      have hcell : wr.cell? ⟨w.heap.size + 1, T, none⟩ = some (.int .i64 (cnt ts (T : Int) k : Int)) := by rw [hR.cell]; exact hcu T hT5
      have hfz := hR.frozen T
      have hcl := cnt_le ts (T : Int) k
      have HTE := Lib.hid hTe
      have HR := Lib.hid hR
      have HR0 := Lib.hid hR0
      have HCS := Lib.hid hcs
      have HCU := Lib.hid hcu
      clear hTe hg hc hR hR0 hcs hcu
      go_wp2
      go_roundw
      case rel =>
        refine ⟨k + 1, cu.setIfInBounds T (.int .i64 ((cnt ts (T : Int) k : Int) + 1)), by omega, by go_num, hB.setCell (p := ⟨w.heap.size + 1, T, none⟩) (by show w.heap.size ≤ w.heap.size + 1; omega) _, by simpa [World.setCell] using hZ, HR0.out.other (by show w.heap.size ≠ w.heap.size + 1; omega) _, HR.out.set _ _, by simpa using HCS.out, fun t ht => ?_⟩
        by_cases e : t = T
        · subst e
          rw [Array.getElem?_setIfInBounds_self_of_lt (by rw [HCS.out]; omega)]
          simp [cnt, HTE.out]
        · rw [Array.getElem?_setIfInBounds_ne (fun e' => e e'.symm), HCU.out t ht]
          have : cnt ts (t : Int) (k + 1) = cnt ts (t : Int) k := by
            simp only [cnt, HTE.out]
            rw [if_neg (by omega)]
            rfl
          rw [this]
      case measure => simp [intOf]; omega
    · obtain rfl : m = k := by omega
      have c0 : wr.cell? ⟨w.heap.size + 1, 0, none⟩ = some (.int .i64 (cnt ts 0 m : Int)) := by rw [hR.cell]; exact hcu 0 (by omega)
      have c1 : wr.cell? ⟨w.heap.size + 1, 1, none⟩ = some (.int .i64 (cnt ts 1 m : Int)) := by rw [hR.cell]; exact hcu 1 (by omega)
      have c2 : wr.cell? ⟨w.heap.size + 1, 2, none⟩ = some (.int .i64 (cnt ts 2 m : Int)) := by rw [hR.cell]; exact hcu 2 (by omega)
      have c3 : wr.cell? ⟨w.heap.size + 1, 3, none⟩ = some (.int .i64 (cnt ts 3 m : Int)) := by rw [hR.cell]; exact hcu 3 (by omega)
      have c4 : wr.cell? ⟨w.heap.size + 1, 4, none⟩ = some (.int .i64 (cnt ts 4 m : Int)) := by rw [hR.cell]; exact hcu 4 (by omega)
      have r0 : wr.cell? ⟨w.heap.size, 0, none⟩ = some (.int .i64 0) := by rw [hR0.cell]; rfl
      have r1 : wr.cell? ⟨w.heap.size, 1, none⟩ = some (.int .i64 0) := by rw [hR0.cell]; rfl
      have r2 : wr.cell? ⟨w.heap.size, 2, none⟩ = some (.int .i64 0) := by rw [hR0.cell]; rfl
      have r3 : wr.cell? ⟨w.heap.size, 3, none⟩ = some (.int .i64 0) := by rw [hR0.cell]; rfl
      have r4 : wr.cell? ⟨w.heap.size, 4, none⟩ = some (.int .i64 0) := by rw [hR0.cell]; rfl
      have f0 := hR0.frozen 0
      have f1 := hR0.frozen 1
      have f2 := hR0.frozen 2
      have f3 := hR0.frozen 3
      have f4 := hR0.frozen 4
      have HR0 := Lib.hid hR0
      clear hR hR0 hcs hcu
      go_wp2
      have hF : Row (((((wr.setCell ⟨w.heap.size, 0, none⟩ (.int .i64 (cnt ts 0 m : Int))).setCell ⟨w.heap.size, 1, none⟩ (.int .i64 (cnt ts 1 m : Int))).setCell ⟨w.heap.size, 2, none⟩ (.int .i64 (cnt ts 2 m : Int))).setCell
          ⟨w.heap.size, 3, none⟩ (.int .i64 (cnt ts 3 m : Int))).setCell ⟨w.heap.size, 4, none⟩ (.int .i64 (cnt ts 4 m : Int))) w.heap.size 58 (countsV ts m) := ((((HR0.out.set 0 _).set 1 _).set 2 _).set 3 _).set 4 _
      have hBF := ((((hB.setCell (p := ⟨w.heap.size, 0, none⟩) (Nat.le_refl _) (.int .i64 (cnt ts 0 m : Int))).setCell (p := ⟨w.heap.size, 1, none⟩) (Nat.le_refl _) (.int .i64 (cnt ts 1 m : Int))).setCell (p := ⟨w.heap.size, 2, none⟩) (Nat.le_refl _) (.int .i64 (cnt ts 2 m : Int))).setCell
          (p := ⟨w.heap.size, 3, none⟩) (Nat.le_refl _) (.int .i64 (cnt ts 3 m : Int))).setCell (p := ⟨w.heap.size, 4, none⟩) (Nat.le_refl _) (.int .i64 (cnt ts 4 m : Int))
      revert hF hBF
      generalize (((((wr.setCell ⟨w.heap.size, 0, none⟩ (.int .i64 (cnt ts 0 m : Int))).setCell ⟨w.heap.size, 1, none⟩ (.int .i64 (cnt ts 1 m : Int))).setCell ⟨w.heap.size, 2, none⟩ (.int .i64 (cnt ts 2 m : Int))).setCell
          ⟨w.heap.size, 3, none⟩ (.int .i64 (cnt ts 3 m : Int))).setCell ⟨w.heap.size, 4, none⟩ (.int .i64 (cnt ts 4 m : Int))) = WF
      intro hF hBF
      have e0 := hF.cell 0
      have e1 := hF.cell 1
      have e2 := hF.cell 2
      have e3 := hF.cell 3
      have e4 := hF.cell 4
      simp only [countsV, List.getElem?_toArray, List.getElem?_cons_zero, List.getElem?_cons_succ] at e0 e1 e2 e3 e4
      exact bodyPost_ret (v := .agg (countsV ts m)) (by simp [results, Try.results66, go_sem, e0, e1, e2, e3, e4, countsV]) rfl ⟨rfl, hBF⟩

end Go.Proofs.Ytldjnfcdmhcjdaa
