/- Contracts: CableValid, CableMiles, CableOhms, CableAll of the reference; CableValid of the program. -/
import Derived.Test.YtoanefccnbnkmaaFlat
import Derived.Test.YtoanefccnbnkmaaCabPlain
namespace Go.Proofs.Ytoanefccnbnkmaa
open Go.RowKit

/-- The three cells of a section. -/
theorem cells3 {w w' : World} {b off n k B : Nat} {cs : List Int} (hc : ∀ k, k < n * 3 → w.cell? ⟨b, off + k, none⟩ = some (.int .i64 (gi cs k))) (hk : k < n) (hB : Below B w w') (hb : b < B) :
    w'.cell? ⟨b, off + k * 3, none⟩ = some (.int .i64 (mi cs k)) ∧ w'.cell? ⟨b, off + k * 3 + 1, none⟩ = some (.int .i64 (ki cs k)) ∧ w'.cell? ⟨b, off + k * 3 + 2, none⟩ = some (.int .i64 (oi cs k)) := by
  have h := fun j hj => (hB.cell (p := ⟨b, off + j, none⟩) hb).trans (hc j hj)
  exact ⟨h (k * 3) (by omega), by rw [Nat.add_assoc]; exact h (k * 3 + 1) (by omega), by rw [Nat.add_assoc]; exact h (k * 3 + 2) (by omega)⟩

theorem secOk_no {cs : List Int} {k : Nat} (h : inB (mi cs k) 1 50 = false ∨ inB (ki cs k) 0 3 = false ∨ inB (oi cs k) 1 20 = false) : ¬ secOk cs k := by
  rintro ⟨h1, h2, h3⟩
  rw [← inB_true] at h1 h2 h3
  rcases h with h | h | h <;> simp_all
theorem secOk_yes {cs : List Int} {k : Nat} (h1 : inB (mi cs k) 1 50 = true) (h2 : inB (ki cs k) 0 3 = true) (h3 : inB (oi cs k) 1 20 = true) : secOk cs k := ⟨inB_true.1 h1, inB_true.1 h2, inB_true.1 h3⟩

set_option maxHeartbeats 1000000 in
theorem specCableValid_b (v : Value) (cs : List Int) (n hi : Nat) (w : World) (hv : SlF 3 w hi v cs n) :
    Calls Try.prog 78 #[v] w fun e w' => e = .returned (.bool (cabB cs n)) ∧ Below w.heap.size w w' := by
  obtain ⟨a, cap, rfl, hl, hn, hcap, hcap2, hc⟩ := hv
  have HC := Lib.hid hc
  clear hl hc
  go_enter Try.func78, Try.ntmps78
  go_wp2
  go_loopw [3] (fun i wr => ∃ k : Nat, k ≤ n ∧ i = .int .i64 k ∧ Hid (Below w.heap.size w wr) ∧ Hid (cabTo cs k)) (fun i _ => n - (intOf i).toNat)
  case atStart => exact ⟨0, Nat.zero_le _, rfl, Below.refl _ _, cabTo_zero cs⟩
  case round =>
    obtain ⟨k, hk, rfl, hB, hno⟩ := hrel
    by_cases hlt : k < n
    · obtain ⟨b, off, rfl, hbh, hc⟩ := HC.out (by omega)
      obtain ⟨c0, c1, c2⟩ := cells3 hc hlt hB.out (World.block_lt_of_cell? w _ (hc (k * 3) (by omega)))
      have B2 := Lib.hid (hB.out.alloc hB.out.size (.cells #[.int .i64 (mi cs k), .int .i64 (ki cs k), .int .i64 (oi cs k)] 76))
      clear hc
      cases h1 : inB (mi cs k) 1 50 with
      | false =>
        go_wp2_with fail
        refine (l6In_is _ _ _ _ h1).mono ?_
        rintro e _ ⟨rfl, rfl⟩
        go_wp2
        go_ret
        exact ⟨by rw [cabB_no_at hlt (secOk_no (.inl h1))]; rfl, B2.out⟩
      | true =>
        go_wp2_with fail
        refine (l6In_is _ _ _ _ h1).mono ?_
        rintro e _ ⟨rfl, rfl⟩
        cases h2 : inB (ki cs k) 0 3 with
        | false =>
          go_wp2_with fail
          refine (l6In_is _ _ _ _ h2).mono ?_
          rintro e _ ⟨rfl, rfl⟩
          go_wp2
          go_ret
          exact ⟨by rw [cabB_no_at hlt (secOk_no (.inr (.inl h2)))]; rfl, B2.out⟩
        | true =>
          go_wp2_with fail
          refine (l6In_is _ _ _ _ h2).mono ?_
          rintro e _ ⟨rfl, rfl⟩
          cases h3 : inB (oi cs k) 1 20 with
          | false =>
            go_wp2_with fail
            refine (l6In_is _ _ _ _ h3).mono ?_
            rintro e _ ⟨rfl, rfl⟩
            go_wp2
            go_ret
            exact ⟨by rw [cabB_no_at hlt (secOk_no (.inr (.inr h3)))]; rfl, B2.out⟩
          | true =>
            have hsec := Lib.hid (secOk_yes h1 h2 h3)
            go_wp2_with fail
            refine (l6In_is _ _ _ _ h3).mono ?_
            rintro e _ ⟨rfl, rfl⟩
            go_wp2
            go_roundw
            case rel => exact ⟨k + 1, by omega, by go_num, B2.out, cabTo_succ hno.out hsec.out⟩
            case measure => simp [intOf]; omega
    · obtain rfl : n = k := by omega
      have hall := Lib.hid (cabB_all hno.out)
      go_wp2_with fail
      refine (l6In_any _ _ _ _).mono ?_
      rintro e _ ⟨rfl, rfl⟩
      go_wp2
      go_ret
      exact ⟨by rw [hall.out]; rfl, hB.out⟩
set_option maxHeartbeats 1000000 in
theorem implCableValid_b (v : Value) (cs : List Int) (n hi : Nat) (w : World) (hv : SlF 3 w hi v cs n) :
    Calls Try.prog 72 #[v] w fun e w' => e = .returned (.bool (cabB cs n)) ∧ Below w.heap.size w w' := by
  obtain ⟨a, cap, rfl, hl, hn, hcap, hcap2, hc⟩ := hv
  have HC := Lib.hid hc
  clear hl hc
  go_enter Try.func72, Try.ntmps72
  go_wp2
  go_loopw [7] (fun i wr => ∃ k : Nat, k ≤ n ∧ i = .int .i64 k ∧ Hid (Below w.heap.size w wr) ∧ Hid (cabTo cs k)) (fun i _ => n - (intOf i).toNat)
  case atStart => exact ⟨0, Nat.zero_le _, rfl, Below.refl _ _, cabTo_zero cs⟩
  case round =>
    obtain ⟨k, hk, rfl, hB, hno⟩ := hrel
    by_cases hlt : k < n
    · obtain ⟨b, off, rfl, hbh, hc⟩ := HC.out (by omega)
      obtain ⟨c0, c1, c2⟩ := cells3 hc hlt hB.out (World.block_lt_of_cell? w _ (hc (k * 3) (by omega)))
      have B2 := Lib.hid (hB.out.alloc hB.out.size (.cells #[.int .i64 (mi cs k), .int .i64 (ki cs k), .int .i64 (oi cs k)] 76))
      clear hc
      cases h1 : inB (mi cs k) 1 50 with
      | false =>
        go_wp2_with fail
        refine (within_is _ _ _ _ h1).mono ?_
        rintro e _ ⟨rfl, rfl⟩
        go_wp2
        go_ret
        exact ⟨by rw [cabB_no_at hlt (secOk_no (.inl h1))]; rfl, B2.out⟩
      | true =>
        go_wp2_with fail
        refine (within_is _ _ _ _ h1).mono ?_
        rintro e _ ⟨rfl, rfl⟩
        cases h2 : inB (ki cs k) 0 3 with
        | false =>
          go_wp2_with fail
          refine (within_is _ _ _ _ h2).mono ?_
          rintro e _ ⟨rfl, rfl⟩
          go_wp2
          go_ret
          exact ⟨by rw [cabB_no_at hlt (secOk_no (.inr (.inl h2)))]; rfl, B2.out⟩
        | true =>
          go_wp2_with fail
          refine (within_is _ _ _ _ h2).mono ?_
          rintro e _ ⟨rfl, rfl⟩
          cases h3 : inB (oi cs k) 1 20 with
          | false =>
            go_wp2_with fail
            refine (within_is _ _ _ _ h3).mono ?_
            rintro e _ ⟨rfl, rfl⟩
            go_wp2
            go_ret
            exact ⟨by rw [cabB_no_at hlt (secOk_no (.inr (.inr h3)))]; rfl, B2.out⟩
          | true =>
            have hsec := Lib.hid (secOk_yes h1 h2 h3)
            go_wp2_with fail
            refine (within_is _ _ _ _ h3).mono ?_
            rintro e _ ⟨rfl, rfl⟩
            go_wp2
            go_roundw
            case rel => exact ⟨k + 1, by omega, by go_num, B2.out, cabTo_succ hno.out hsec.out⟩
            case measure => simp [intOf]; omega
    · obtain rfl : n = k := by omega
      have hall := Lib.hid (cabB_all hno.out)
      go_wp2_with fail
      refine (within_any _ _ _ _).mono ?_
      rintro e _ ⟨rfl, rfl⟩
      go_wp2
      go_ret
      exact ⟨by rw [hall.out]; rfl, hB.out⟩

theorem specCableValid_is {r : Bool} (v : Value) (cs : List Int) (n hi : Nat) (w : World) (hv : SlF 3 w hi v cs n) (h : cabB cs n = r) :
    Calls Try.prog 78 #[v] w fun e w' => e = .returned (.bool r) ∧ Below w.heap.size w w' := h ▸ specCableValid_b v cs n hi w hv
theorem implCableValid_is {r : Bool} (v : Value) (cs : List Int) (n hi : Nat) (w : World) (hv : SlF 3 w hi v cs n) (h : cabB cs n = r) :
    Calls Try.prog 72 #[v] w fun e w' => e = .returned (.bool r) ∧ Below w.heap.size w w' := h ▸ implCableValid_b v cs n hi w hv

set_option maxHeartbeats 1000000 in
theorem specCableMiles_b (v : Value) (cs : List Int) (n hi : Nat) (w : World) (hv : SlF 3 w hi v cs n) :
    Calls Try.prog 64 #[v] w fun e w' => e = .returned (.int .i64 (milesI cs n)) ∧ Below w.heap.size w w' := by
  have hv0 := hv
  obtain ⟨a, cap, rfl, hl, hn, hcap, hcap2, hc⟩ := hv
  have HV := Lib.hid hv0
  clear hv0 hl hc
  cases h1 : cabB cs n with
  | false =>
    go_enter Try.func64, Try.ntmps64
    go_wp2_with fail
    refine (specCableValid_is _ cs n hi _ HV.out h1).mono ?_
    rintro e w1 ⟨rfl, b1⟩
    go_wp2
    go_ret
    exact ⟨by rw [milesI_no h1]; rfl, b1⟩
  | true =>
    have h8 := (cabB_true.1 h1).1.2
    have HM := Lib.hid (milesI_yes h1)
    have HT := Lib.hid (cabB_true.1 h1).2
    go_enter Try.func64, Try.ntmps64
    go_wp2_with fail
    refine (specCableValid_is _ cs n hi _ HV.out h1).mono ?_
    rintro e w1 ⟨rfl, b1⟩
    have B1 := Lib.hid b1
    have hv1 := HV.out.old b1
    obtain ⟨_, _, e1, _, _, _, _, hc⟩ := hv1
    cases e1
    have HC := Lib.hid hc
    clear b1 hc
    go_wp2
    go_loop [3, 4] (fun s i => ∃ k : Nat, k ≤ n ∧ i = .int .i64 k ∧ s = .int .i64 (mlTo cs k)) (fun _ i => n - (intOf i).toNat)
    case atStart => exact ⟨0, Nat.zero_le _, rfl, rfl⟩
    case round =>
      obtain ⟨k, hk, rfl, rfl⟩ := hrel
      by_cases hlt : k < n
      · obtain ⟨b, off, rfl, hbh, hc⟩ := HC.out (by omega)
        obtain ⟨c0, -, -⟩ := cells3 hc hlt (Below.refl _ _) (World.block_lt_of_cell? w1 _ (hc (k * 3) (by omega)))
        have hm := mlTo_bd (cabTo_mono HT.out hk)
        have hs := (HT.out k hlt).1
        have hge : (0 : Int) ≤ mlTo cs k := by omega
        have hle : mlTo cs k ≤ 400 := by omega
        clear hc hm
        go_wp2
        go_round
        case rel => exact ⟨k + 1, by omega, by go_num, rfl⟩
        case measure => simp [intOf]; omega
      · obtain rfl : n = k := by omega
        go_wp2
        go_ret
        exact ⟨by rw [HM.out]; rfl, B1.out⟩

theorem min_wrap {l a : Int} (h1 : 0 ≤ l) (h2 : 1 ≤ a ∧ a ≤ 50) : 0 ≤ min l a ∧ min l a ≤ 50 := by omega

set_option maxHeartbeats 1000000 in
theorem specCableOhms_b (v : Value) (m : Int) (cs : List Int) (n hi : Nat) (w : World) (hv : SlF 3 w hi v cs n) :
    Calls Try.prog 71 #[v, .int .i64 m] w fun e w' => e = .returned (.int .i64 (ohmsI cs n m)) ∧ Below w.heap.size w w' := by
  have hv0 := hv
  obtain ⟨a, cap, rfl, hl, hn, hcap, hcap2, hc⟩ := hv
  have HV := Lib.hid hv0
  clear hv0 hl hc
  cases h1 : inB m 0 (milesI cs n) with
  | false =>
    go_enter Try.func71, Try.ntmps71
    go_wp2_with fail
    refine (specCableMiles_b _ cs n hi _ HV.out).mono ?_
    rintro e w1 ⟨rfl, b1⟩
    go_wp2_with fail
    refine (l6In_is _ _ _ _ h1).mono ?_
    rintro e _ ⟨rfl, rfl⟩
    go_wp2
    go_ret
    exact ⟨by rw [ohmsI, h1]; rfl, b1⟩
  | true =>
    have hin := inB_true.1 h1
    have hcb : cabB cs n = true := by
      cases e : cabB cs n with
      | true => rfl
      | false => rw [milesI_no e] at hin; omega
    have hm0 := hin.1
    have h8 := (cabB_true.1 hcb).1.2
    have HM := Lib.hid (ohmsI_yes hin.1 hin.2)
    have HT := Lib.hid (cabB_true.1 hcb).2
    have hm4 : m ≤ 400 := by have := milesI_bd (cs := cs) (n := n); omega
    clear hin hcb
    go_enter Try.func71, Try.ntmps71
    go_wp2_with fail
    refine (specCableMiles_b _ cs n hi _ HV.out).mono ?_
    rintro e w1 ⟨rfl, b1⟩
    go_wp2_with fail
    refine (l6In_is _ _ _ _ h1).mono ?_
    rintro e _ ⟨rfl, rfl⟩
    have B1 := Lib.hid b1
    have hv1 := HV.out.old b1
    obtain ⟨_, _, e1, _, _, _, _, hc⟩ := hv1
    cases e1
    have HC := Lib.hid hc
    clear b1 hc h1
    go_wp2
    go_loop [1, 5, 6] (fun l s i => ∃ k : Nat, k ≤ n ∧ i = .int .i64 k ∧ s = .int .i64 (ohTo cs m k).1 ∧ l = .int .i64 (ohTo cs m k).2) (fun _ _ i => n - (intOf i).toNat)
    case atStart => exact ⟨0, Nat.zero_le _, rfl, rfl, rfl⟩
    case round =>
      obtain ⟨k, hk, rfl, rfl, rfl⟩ := hrel
      by_cases hlt : k < n
      · obtain ⟨b, off, rfl, hbh, hc⟩ := HC.out (by omega)
        obtain ⟨c0, -, c2⟩ := cells3 hc hlt (Below.refl _ _) (World.block_lt_of_cell? w1 _ (hc (k * 3) (by omega)))
        have hm := ohTo_bd hm0 (cabTo_mono HT.out hk)
        have hs := HT.out k hlt
        obtain ⟨p1, p2, p3, p4⟩ := part_bd hm.2.2.1 hs.1 hs.2.2
        have E1 : Hid ((ohTo cs m (k + 1)).1 = (ohTo cs m k).1 + min (ohTo cs m k).2 (mi cs k) * oi cs k) := Lib.hid rfl
        have E2 : Hid ((ohTo cs m (k + 1)).2 = (ohTo cs m k).2 - min (ohTo cs m k).2 (mi cs k)) := Lib.hid rfl
        obtain ⟨q1, q2, q3, q4⟩ := hm
        have q5 : (ohTo cs m k).1 ≤ 8000 := by omega
        clear hc hs q2
        revert E1 E2 p1 p2 p3 p4 q1 q3 q4 q5
        generalize (ohTo cs m k).1 = S
        generalize (ohTo cs m k).2 = L
        intro p1 p2 p3 p4 E1 E2 q1 q3 q4 q5
        by_cases hd : mi cs k < L
        · have hmin : min L (mi cs k) = mi cs k := by omega
          rw [hmin] at p1 p2 p3 p4 E1 E2
          clear hmin
          go_wp2
          go_round
          case rel => exact ⟨k + 1, by omega, by go_num, by rw [E1.out], by rw [E2.out]⟩
          case measure => simp [intOf]; omega
        · have hmin : min L (mi cs k) = L := by omega
          rw [hmin] at p1 p2 p3 p4 E1 E2
          clear hmin
          go_wp2
          go_round
          case rel => exact ⟨k + 1, by omega, by go_num, by rw [E1.out], by rw [E2.out, Int.sub_self]⟩
          case measure => simp [intOf]; omega
      · obtain rfl : n = k := by omega
        go_wp2
        go_ret
        exact ⟨by rw [HM.out]; rfl, B1.out⟩

theorem specCableAll_b (v : Value) (cs : List Int) (n hi : Nat) (w : World) (hv : SlF 3 w hi v cs n) :
    Calls Try.prog 93 #[v] w fun e w' => e = .returned (.int .i64 (allI cs n)) ∧ Below w.heap.size w w' := by
  go_enter Try.func93, Try.ntmps93
  go_wp2_with fail
  refine (specCableMiles_b _ cs n hi _ hv).mono ?_
  rintro e w1 ⟨rfl, b1⟩
  have B1 := Lib.hid b1
  have V1 := Lib.hid (hv.old b1)
  clear b1
  go_wp2_with fail
  refine (specCableOhms_b _ _ cs n hi _ V1.out).mono ?_
  rintro e w2 ⟨rfl, b2⟩
  have B2 := Lib.hid (B1.out.trans (b2.mono B1.out.size))
  clear b2
  go_wp2
  go_ret
  exact ⟨rfl, B2.out⟩

end Go.Proofs.Ytoanefccnbnkmaa
