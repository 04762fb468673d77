/- Contracts: SparesValid and SparesMiles of the reference and of the program. -/
import Derived.Test.YthbkimojbbkeiaaDoorFlat
import Derived.Test.YthbkimojbbkeiaaDoorSpPlain
namespace Go.Proofs.YthbkimojbbkeiaaDoor
open Go.RowKit

theorem nextW {W w w' : World} (B : Below W.heap.size W w) (b : Below w.heap.size w w') : Below W.heap.size W w' := B.trans (b.mono B.size)
theorem cellB {w w' : World} {a : Addr} {v : Value} (h : w.cell? a = some v) (b : Below w.heap.size w w') : w'.cell? a = some v := (b.cell (World.block_lt_of_cell? w _ h)).trans h

/-- The two cells of a spare. -/
theorem cellsS {w w' : World} {b off n k B : Nat} {cs : List Int} (hc : ∀ k, k < n * 2 → w.cell? ⟨b, off + k, none⟩ = some (.int .i64 (gi cs k))) (hk : k < n) (hB : Below B w w') (hb : b < B) :
    w'.cell? ⟨b, off + k * 2, none⟩ = some (.int .i64 (smi cs k)) ∧ w'.cell? ⟨b, off + k * 2 + 1, none⟩ = some (.int .i64 (ski cs k)) := cel2 hc hk hB hb

theorem specSparesValid_b (v : Value) (cs : List Int) (n hi : Nat) (w : World) (hv : SlF 2 w hi v cs n) :
    Calls Tryd.prog 41 #[v] w fun e w' => e = .returned (.bool (spB 10 cs n)) ∧ w = w' := by
  obtain ⟨a, cap, rfl, hl, hn, hcap, hcap2, hc⟩ := hv
  have HC := Lib.hid hc
  clear hl hc
  go_enter Tryd.func41, Tryd.ntmps41
  go_wp2
  go_loop [3] (fun i => ∃ k : Nat, k ≤ n ∧ i = .int .i64 k ∧ Hid (spTo cs k)) (fun i => n - (intOf i).toNat)
  case atStart => exact ⟨0, Nat.zero_le _, rfl, spTo_zero cs⟩
  case round =>
    obtain ⟨k, hk, rfl, hno⟩ := hrel
    by_cases hlt : k < n
    · obtain ⟨b, off, rfl, hbh, hc⟩ := HC.out (by omega)
      obtain ⟨c0, c1⟩ := cellsS hc hlt (Below.refl _ _) (World.block_lt_of_cell? w _ (hc (k * 2) (by omega)))
      clear hc
      cases h1 : inB (smi cs k) 1 50 with
      | false =>
        go_wp2_with fail
        refine (l6In_is _ _ _ _ h1).mono ?_
        rintro e _ ⟨rfl, rfl⟩
        go_wp2
        go_ret
        exact ⟨by rw [spB_no_at hlt (spOk_no (.inl h1))]; rfl, rfl⟩
      | true =>
        go_wp2_with fail
        refine (l6In_is _ _ _ _ h1).mono ?_
        rintro e _ ⟨rfl, rfl⟩
        cases h2 : inB (ski cs k) 0 3 with
        | false =>
          go_wp2_with fail
          refine (l6In_is _ _ _ _ h2).mono ?_
          rintro e _ ⟨rfl, rfl⟩
          go_wp2
          go_ret
          exact ⟨by rw [spB_no_at hlt (spOk_no (.inr h2))]; rfl, rfl⟩
        | true =>
          have hsec := Lib.hid (spOk_yes h1 h2)
          go_wp2_with fail
          refine (l6In_is _ _ _ _ h2).mono ?_
          rintro e _ ⟨rfl, rfl⟩
          go_wp2
          go_round
          case rel => exact ⟨k + 1, by omega, by go_num, spTo_succ hno.out hsec.out⟩
          case measure => simp [intOf]; omega
    · obtain rfl : n = k := by omega
      have hall := Lib.hid (spB_all (most := 10) hno.out)
      go_wp2
      go_ret
      exact ⟨by rw [hall.out]; rfl, rfl⟩
theorem specSparesValid_is {r : Bool} (v : Value) (cs : List Int) (n hi : Nat) (w : World) (hv : SlF 2 w hi v cs n) (h : spB 10 cs n = r) :
    Calls Tryd.prog 41 #[v] w fun e w' => e = .returned (.bool r) ∧ w = w' := h ▸ specSparesValid_b v cs n hi w hv

theorem spareOut_any (m k : Int) (w : World) :
    Calls Tryd.prog 53 #[.agg #[.int .i64 m, .int .i64 k]] w fun e w' => e = .returned (.bool (!inB m 1 50 || !inB k 0 3)) ∧ Below w.heap.size w w' := by
  have B1 := Lib.hid ((Below.refl w.heap.size w).alloc (Nat.le_refl _) (.cells #[.int .i64 m, .int .i64 k] 30))
  cases h1 : inB m 1 50 with
  | false =>
    go_enter Tryd.func53, Tryd.ntmps53
    go_wp2_with fail
    refine (within_is _ _ _ _ h1).mono ?_
    rintro e _ ⟨rfl, rfl⟩
    go_wp2
    go_ret
    exact ⟨rfl, B1.out⟩
  | true =>
    cases h2 : inB k 0 3 with
    | false =>
      go_enter Tryd.func53, Tryd.ntmps53
      go_wp2_with fail
      refine (within_is _ _ _ _ h1).mono ?_
      rintro e _ ⟨rfl, rfl⟩
      go_wp2_with fail
      refine (within_is _ _ _ _ h2).mono ?_
      rintro e _ ⟨rfl, rfl⟩
      go_wp2
      go_ret
      exact ⟨rfl, B1.out⟩
    | true =>
      go_enter Tryd.func53, Tryd.ntmps53
      go_wp2_with fail
      refine (within_is _ _ _ _ h1).mono ?_
      rintro e _ ⟨rfl, rfl⟩
      go_wp2_with fail
      refine (within_is _ _ _ _ h2).mono ?_
      rintro e _ ⟨rfl, rfl⟩
      go_wp2
      go_ret
      exact ⟨rfl, B1.out⟩
theorem spareOut_is {r : Bool} (m k : Int) (w : World) (h : (!inB m 1 50 || !inB k 0 3) = r) :
    Calls Tryd.prog 53 #[.agg #[.int .i64 m, .int .i64 k]] w fun e w' => e = .returned (.bool r) ∧ Below w.heap.size w w' := h ▸ spareOut_any m k w

/-- The first spare that is none, or -1. -/
theorem indexSpare_any (v : Value) (cs : List Int) (n hi : Nat) (w : World) (hv : SlF 2 w hi v cs n) :
    Calls Tryd.prog 58 #[v, .func (.func 53) #[] #[]] w fun e w' =>
      (∃ r : Int, e = .returned (.int .i64 r) ∧ Hid (decide (0 ≤ r) = !decide (spTo cs n))) ∧ Below w.heap.size w w' := by
  obtain ⟨a, cap, rfl, hl, hn, hcap, hcap2, hc⟩ := hv
  have HC := Lib.hid hc
  clear hl hc
  go_enter Tryd.func58, Tryd.ntmps58
  go_wp2
  go_loopw [8] (fun i wr => ∃ k : Nat, k ≤ n ∧ i = .int .i64 k ∧ Hid (Below w.heap.size w wr) ∧ Hid (spTo cs k)) (fun i _ => n - (intOf i).toNat)
  case atStart => exact ⟨0, Nat.zero_le _, rfl, Below.refl _ _, spTo_zero cs⟩
  case round =>
    obtain ⟨k, hk, rfl, hB, hno⟩ := hrel
    by_cases hlt : k < n
    · obtain ⟨b, off, rfl, hbh, hc⟩ := HC.out (by omega)
      obtain ⟨c0, c1⟩ := cellsS hc hlt hB.out (World.block_lt_of_cell? w _ (hc (k * 2) (by omega)))
      clear hc
      cases hin : (!inB (smi cs k) 1 50 || !inB (ski cs k) 0 3) with
      | false =>
        have hok : Hid (spOk cs k) := Lib.hid (by simp only [Bool.or_eq_false_iff, Bool.not_eq_false'] at hin; exact spOk_yes hin.1 hin.2)
        go_wp2_with fail
        refine (spareOut_is _ _ _ hin).mono ?_
        rintro e w2 ⟨rfl, b2⟩
        have B2 := Lib.hid (nextW hB.out b2)
        clear b2
        go_wp2
        go_roundw
        case rel => exact ⟨k + 1, by omega, by go_num, B2, spTo_succ hno.out hok.out⟩
        case measure => simp [intOf]; omega
      | true =>
        have hok : Hid (¬ spOk cs k) := Lib.hid (by
          simp only [Bool.or_eq_true, Bool.not_eq_true'] at hin
          exact spOk_no hin)
        go_wp2_with fail
        refine (spareOut_is _ _ _ hin).mono ?_
        rintro e w2 ⟨rfl, b2⟩
        have B2 := Lib.hid (nextW hB.out b2)
        clear b2
        go_wp2
        go_ret
        refine ⟨⟨k, rfl, Lib.hid ?_⟩, B2.out⟩
        have : decide (spTo cs n) = false := decide_eq_false fun h => hok.out (h k hlt)
        rw [this]
        simp
    · obtain rfl : n = k := by omega
      go_wp2
      go_ret
      refine ⟨⟨-1, rfl, Lib.hid ?_⟩, hB.out⟩
      rw [decide_eq_true hno.out]
      rfl

theorem containsSpare_any (v : Value) (cs : List Int) (n hi : Nat) (w : World) (hv : SlF 2 w hi v cs n) :
    Calls Tryd.prog 52 #[v, .func (.func 53) #[] #[]] w fun e w' => e = .returned (.bool (!decide (spTo cs n))) ∧ Below w.heap.size w w' := by
  have HV := Lib.hid hv
  obtain ⟨a, cap, rfl, -⟩ := hv
  go_enter Tryd.func52, Tryd.ntmps52
  go_wp2_with fail
  refine (indexSpare_any _ cs n hi _ HV.out).mono ?_
  rintro e w' ⟨⟨r, rfl, hr⟩, b1⟩
  have B1 := Lib.hid b1
  clear b1
  go_wp2
  go_ret
  exact ⟨by rw [← hr.out]; rfl, B1.out⟩
theorem containsSpare_is {r : Bool} (v : Value) (cs : List Int) (n hi : Nat) (w : World) (hv : SlF 2 w hi v cs n) (h : (!decide (spTo cs n)) = r) :
    Calls Tryd.prog 52 #[v, .func (.func 53) #[] #[]] w fun e w' => e = .returned (.bool r) ∧ Below w.heap.size w w' := h ▸ containsSpare_any v cs n hi w hv

theorem sparesUp_b (v : Value) (most : Int) (cs : List Int) (n hi : Nat) (w : World) (hv : SlF 2 w hi v cs n) :
    Calls Tryd.prog 30 #[v, .int .i64 most] w fun e w' => e = .returned (.bool (spB most cs n)) ∧ Below w.heap.size w w' := by
  have HV := Lib.hid hv
  obtain ⟨a, cap, rfl, -⟩ := hv
  by_cases hm : (n : Int) ≤ most
  · have hd : decide ((n : Int) ≤ most) = true := decide_eq_true hm
    have HR : Hid (spB most cs n = decide (spTo cs n)) := Lib.hid (by rw [Bool.eq_iff_iff, spB_true, decide_eq_true_eq]; exact ⟨fun h => h.2, fun h => ⟨hm, h⟩⟩)
    go_enter Tryd.func30, Tryd.ntmps30
    go_wp2_with fail
    refine (containsSpare_any _ cs n hi _ HV.out).mono ?_
    rintro e w' ⟨rfl, b1⟩
    have B1 := Lib.hid b1
    clear b1
    go_wp2
    go_ret
    exact ⟨by rw [HR.out]; simp, B1.out⟩
  · have hd : decide ((n : Int) ≤ most) = false := decide_eq_false hm
    have hd2 : decide (most < (n : Int)) = true := decide_eq_true (by omega)
    go_enter Tryd.func30, Tryd.ntmps30
    go_wp2
    go_ret
    exact ⟨by rw [spB_no_len (by omega)]; rfl, Below.refl _ _⟩
theorem sparesUp_is {r : Bool} (v : Value) (most : Int) (cs : List Int) (n hi : Nat) (w : World) (hv : SlF 2 w hi v cs n) (h : spB most cs n = r) :
    Calls Tryd.prog 30 #[v, .int .i64 most] w fun e w' => e = .returned (.bool r) ∧ Below w.heap.size w w' := h ▸ sparesUp_b v most cs n hi w hv
theorem implSparesValid_b (v : Value) (cs : List Int) (n hi : Nat) (w : World) (hv : SlF 2 w hi v cs n) :
    Calls Tryd.prog 29 #[v] w fun e w' => e = .returned (.bool (spB 10 cs n)) ∧ Below w.heap.size w w' := by
  go_enter Tryd.func29, Tryd.ntmps29
  go_wp2_with fail
  refine (sparesUp_b _ 10 cs n hi _ hv).mono ?_
  rintro e w' ⟨rfl, b1⟩
  go_wp2
  go_ret
  exact ⟨rfl, b1⟩
theorem implSparesValid_is {r : Bool} (v : Value) (cs : List Int) (n hi : Nat) (w : World) (hv : SlF 2 w hi v cs n) (h : spB 10 cs n = r) :
    Calls Tryd.prog 29 #[v] w fun e w' => e = .returned (.bool r) ∧ Below w.heap.size w w' := h ▸ implSparesValid_b v cs n hi w hv

theorem implSparesMiles_b (v : Value) (kind : Int) (cs : List Int) (n hi : Nat) (w : World) (hv : SlF 2 w hi v cs n) :
    Calls Tryd.prog 12 #[v, .int .i64 kind] w fun e w' => e = .returned (.int .i64 (kmI cs n kind)) ∧ Below w.heap.size w w' := by
  have HV := Lib.hid hv
  obtain ⟨a, cap, rfl, hl, hn, hcap, hcap2, hc⟩ := hv
  have HC := Lib.hid hc
  clear hl hc
  cases h1 : spB 10 cs n with
  | false =>
    go_enter Tryd.func12, Tryd.ntmps12
    go_wp2_with fail
    refine (implSparesValid_is _ cs n hi _ HV.out h1).mono ?_
    rintro e w1 ⟨rfl, b1⟩
    go_wp2
    go_ret
    exact ⟨by rw [kmI_no h1]; rfl, b1⟩
  | true =>
    have HM := Lib.hid (kmI_yes (kind := kind) h1)
    have HT := Lib.hid (spB_true.1 h1).2
    have hn10 := (spB_true.1 h1).1
    go_enter Tryd.func12, Tryd.ntmps12
    go_wp2_with fail
    refine (implSparesValid_is _ cs n hi _ HV.out h1).mono ?_
    rintro e w1 ⟨rfl, b1⟩
    have B1 := Lib.hid b1
    clear h1 b1
    go_wp2
    go_loopw [5, 13] (fun s i wr => ∃ k : Nat, k ≤ n ∧ i = .int .i64 k ∧ s = .int .i64 (kmTo cs kind k) ∧ Hid (Below w.heap.size w wr)) (fun _ i _ => n - (intOf i).toNat)
    case atStart => exact ⟨0, Nat.zero_le _, rfl, rfl, B1⟩
    case round =>
      clear B1
      obtain ⟨k, hk, rfl, rfl, hB⟩ := hrel
      by_cases hlt : k < n
      · obtain ⟨b, off, rfl, hbh, hc⟩ := HC.out (by omega)
        obtain ⟨c0, c1⟩ := cellsS hc hlt hB.out (World.block_lt_of_cell? w _ (hc (k * 2) (by omega)))
        have hm := kmTo_bd (kind := kind) (spTo_mono HT.out hk)
        have hs := (HT.out k hlt).1
        have hge : (0 : Int) ≤ kmTo cs kind k := by omega
        have hle : kmTo cs kind k ≤ 500 := by omega
        have B2 := Lib.hid (hB.out.alloc hB.out.size (.cells #[.int .i64 (smi cs k), .int .i64 (ski cs k)] 30))
        clear hc hm
        by_cases he : ski cs k = kind
        · have hb : (ski cs k == kind) = true := by simp [he]
          have HN : Hid (kmTo cs kind (k + 1) = kmTo cs kind k + smi cs k) := Lib.hid (by rw [kmTo, if_pos he])
          clear he
          go_wp2
          go_roundw
          case rel => exact ⟨k + 1, by omega, by go_num, by rw [HN.out], B2⟩
          case measure => simp [intOf]; omega
        · have hb : (ski cs k == kind) = false := by simp [he]
          have HN : Hid (kmTo cs kind (k + 1) = kmTo cs kind k) := Lib.hid (by rw [kmTo, if_neg he])
          clear he
          go_wp2
          go_roundw
          case rel => exact ⟨k + 1, by omega, by go_num, by rw [HN.out], B2⟩
          case measure => simp [intOf]; omega
      · obtain rfl : n = k := by omega
        go_wp2
        go_ret
        exact ⟨by rw [HM.out]; rfl, hB.out⟩

end Go.Proofs.YthbkimojbbkeiaaDoor
