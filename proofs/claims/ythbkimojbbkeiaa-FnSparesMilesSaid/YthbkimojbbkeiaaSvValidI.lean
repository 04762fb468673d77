/- Contracts: ServeValid, wasteOf and ServeWaste of the program; ServeWaste of the reference. -/
import Derived.Test.YthbkimojbbkeiaaSvValid
namespace Go.Proofs.Ythbkimojbbkeiaa
open Go.RowKit

/-- A mask holds the first k of a list. -/
def Mask (m : Nat) (l : List Int) : Prop := m < 1024 ∧ ∀ u : Nat, m.testBit u = memB l (u : Int)
theorem mask_nil : Mask 0 [] := ⟨by omega, fun u => by simp [memB]⟩
theorem mask_push {m t : Nat} {l : List Int} (h : Mask m l) (ht : t ≤ 9) : Mask (m ||| 2 ^ t) (l ++ [(t : Int)]) :=
  ⟨(bit_set m t h.1 ht).2, fun u => by
    rw [bit_mem, h.2 u, Bool.eq_iff_iff]
    simp only [memB, Bool.or_eq_true, decide_eq_true_eq, List.mem_append, List.mem_singleton]
    constructor
    · rintro (h | h)
      · exact .inl h
      · exact .inr (by omega)
    · rintro (h | h)
      · exact .inl h
      · exact .inr (by omega)⟩

set_option maxRecDepth 100000 in
set_option maxHeartbeats 2000000 in
theorem implServeValid_b (v1 v2 v3 : Value) (cs ds sv : List Int) (n m h1 h2 h3 : Nat) (w : World) (hv1 : SlF 2 w h1 v1 cs n) (hv2 : SlF 2 w h2 v2 ds m) (hv3 : Sl w h3 v3 sv) :
    Calls Try.prog 34 #[v1, v2, v3] w fun e w' => e = .returned (.bool (svB cs n ds m sv)) ∧ Below w.heap.size w w' := by
  have HV1 := Lib.hid hv1
  have HV2 := Lib.hid hv2
  have HV3 := Lib.hid hv3
  obtain ⟨a1, cap1, rfl, -⟩ := hv1
  obtain ⟨a2, cap2, rfl, -⟩ := hv2
  obtain ⟨a3, l, cap3, rfl, hl, hl2, -⟩ := hv3
  have HL := Lib.hid hl
  clear hl
  cases e1 : bothB cs n ds m with
  | false =>
    have HR : Hid (svB cs n ds m sv = false) := Lib.hid (by simp [svB, e1])
    go_enter Try.func34, Try.ntmps34
    go_wp2_with fail
    refine (servable_is _ _ cs ds n m _ _ _ HV1.out HV2.out e1).mono ?_
    rintro e w1 ⟨rfl, b1⟩
    go_wp2
    go_ret
    exact ⟨by rw [HR.out]; rfl, b1⟩
  | true =>
    by_cases hlm : l = m
    · subst hlm
      have HT1 := Lib.hid (spB_true.1 (Bool.and_eq_true_iff.1 e1).1)
      have HE := Lib.hid e1
      have hn10 := HT1.out.1
      go_enter Try.func34, Try.ntmps34
      go_wp2_with fail
      refine (servable_is _ _ cs ds n l _ _ _ HV1.out HV2.out e1).mono ?_
      rintro e w1 ⟨rfl, b1⟩
      have B1 := Lib.hid b1
      clear e1 b1
      go_wp2
      go_loopw [7, 23] (fun s i wr => ∃ k q : Nat, k ≤ l ∧ i = .int .i64 k ∧ s = .int .i64 q ∧ Hid (Mask q (sv.take k)) ∧ Hid (Below w.heap.size w wr) ∧ Hid (vTo cs ds n sv k)) (fun _ i _ => l - (intOf i).toNat)
      case atStart => exact ⟨0, 0, Nat.zero_le _, rfl, rfl, mask_nil, B1, fun j hj => absurd hj (by omega)⟩
      case round =>
        clear B1
        obtain ⟨k, q, hk, rfl, rfl, hM, hB, hno⟩ := hrel
        by_cases hlt : k < l
        · have V1 := Lib.hid (HV1.out.old hB.out)
          have V3 := Lib.hid (HV3.out.old hB.out)
          obtain ⟨_, _, _, e3, _, _, _, _, hc3⟩ := V3.out
          cases e3
          obtain ⟨b3, off3, rfl, hb3, hc3⟩ := hc3 (by omega)
          have c3 := hc3 k hlt
          have k3 := cell_regrown c3
          clear hc3
          have HD : Hid (vB cs ds n sv k = (inB (gi sv k) 0 ((n : Int) - 1) && (!memB (sv.take k) (gi sv k) && srB (smi cs (gi sv k).toNat) (ski cs (gi sv k).toNat) (smi ds k) (ski ds k)))) := Lib.hid rfl
          have HN := Lib.hid fun h => svB_no_at (m := l) (cs := cs) (ds := ds) (n := n) (sv := sv) hlt h
          have hw1 : IntKind.i64.wrap ((n : Int) - 1) = (n : Int) - 1 := IntWalk.i64_in _ (by omega)
          cases hin : inB (gi sv k) 0 ((n : Int) - 1) with
          | false =>
            replace HN := Lib.hid (HN.out (by rw [HD.out, hin]; rfl))
            clear HD
            go_wp2
            refine wp_region_quiet_below (by kernel_rfl) (by kernel_rfl) ?_
            repeat (any_goals (first | go_big_quiet_step (((go_at_call 71; exact Calls.regrown_of (within_ib _ _ _ _ hin)))) | quiet_step (((go_at_call 71; exact Calls.regrown_of (within_ib _ _ _ _ hin))))))
            refine wpQuiet_nil ?_
            intro _ hw'
            obtain ⟨⟨dq, osq⟩, hw''⟩ := hw'
            subst hw''
            have bq := below_regrown (wr) dq osq
            revert bq
            generalize Go.Sort.grow (redrawn (wr) dq) osq = wq
            intro bq
            clear c3 k3 hw1
            go_wp2
            go_ret
            exact ⟨by rw [HN.out]; rfl, nextW hB.out bq⟩
          | true =>
            obtain ⟨i1, i2⟩ := inB_true.1 hin
            obtain ⟨j, hj⟩ := Int.eq_ofNat_of_zero_le i1
            have hjn : j < n := by omega
            have HTK : Hid (sv.take (k + 1) = sv.take k ++ [(j : Int)]) := Lib.hid (by rw [take_push (by rw [HL.out]; exact hlt), hj])
            rw [hj] at c3 k3 hin HD
            simp only [Int.toNat_natCast] at HD
            clear i1 i2 hj
            have V2 := Lib.hid (HV2.out.old hB.out)
            obtain ⟨_, _, e2, _, _, _, _, hc1⟩ := V1.out
            cases e2
            obtain ⟨b1, off1, rfl, hb1, hc1⟩ := hc1 (by omega)
            obtain ⟨d0, d1⟩ := cellsS hc1 hjn (Below.refl _ _) (World.block_lt_of_cell? wr _ (hc1 (j * 2) (by omega)))
            obtain ⟨_, _, e2, _, _, _, _, hc2⟩ := V2.out
            cases e2
            obtain ⟨b2, off2, rfl, hb2, hc2⟩ := hc2 (by omega)
            obtain ⟨f0, f1⟩ := cellsS hc2 hlt (Below.refl _ _) (World.block_lt_of_cell? wr _ (hc2 (k * 2) (by omega)))
            clear hc1 hc2
            have p0 := cell_regrown d0
            have p1 := cell_regrown d1
            have q0 := cell_regrown f0
            have q1 := cell_regrown f1
            have hjn2 : (j : Int) < (n : Int) := by omega
            have hbt := bit_test q j hM.out.1
            rw [hM.out.2 j] at hbt
            cases hm : memB (sv.take k) (j : Int) with
            | true =>
              rw [hm] at hbt
              replace HN := Lib.hid (HN.out (by rw [HD.out, hin, hm]; rfl))
              clear HD
              go_wp2
              refine wp_region_quiet_below (by kernel_rfl) (by kernel_rfl) ?_
              repeat (any_goals (first | go_big_quiet_step (((go_at_call 71; exact Calls.regrown_of (within_ib _ _ _ _ hin)))) | quiet_step (((go_at_call 71; exact Calls.regrown_of (within_ib _ _ _ _ hin))))))
              refine wpQuiet_nil ?_
              intro _ hw'
              obtain ⟨⟨dq, osq⟩, hw''⟩ := hw'
              subst hw''
              have bq := below_regrown (wr) dq osq
              revert bq
              generalize Go.Sort.grow (redrawn (wr) dq) osq = wq
              intro bq
              clear c3 k3 d0 d1 f0 f1 p0 p1 q0 q1 hw1
              go_wp2
              go_ret
              exact ⟨by rw [HN.out]; rfl, nextW hB.out bq⟩
            | false =>
              rw [hm] at hbt
              cases hs : srB (smi cs j) (ski cs j) (smi ds k) (ski ds k) with
              | false =>
                replace HN := Lib.hid (HN.out (by rw [HD.out, hin, hm, hs]; rfl))
                clear HD
                go_wp2
                refine wp_region_quiet_below (by kernel_rfl) (by kernel_rfl) ?_
                repeat (any_goals (first | go_big_quiet_step ((first | (go_at_call 71; exact Calls.regrown_of (within_ib _ _ _ _ hin)) | (go_at_call 67; exact Calls.regrown_of (implServes_is _ _ _ _ _ hs)))) | quiet_step ((first | (go_at_call 71; exact Calls.regrown_of (within_ib _ _ _ _ hin)) | (go_at_call 67; exact Calls.regrown_of (implServes_is _ _ _ _ _ hs))))))
                refine wpQuiet_nil ?_
                intro _ hw'
                obtain ⟨⟨dq, osq⟩, hw''⟩ := hw'
                subst hw''
                have bq := below_regrown (wr) dq osq
                revert bq
                generalize Go.Sort.grow (redrawn (wr) dq) osq = wq
                intro bq
                clear c3 k3 d0 d1 f0 f1 p0 p1 q0 q1 hw1
                go_wp2
                go_ret
                exact ⟨by rw [HN.out]; rfl, nextW hB.out bq⟩
              | true =>
                have HY := Lib.hid (vTo_succ hno.out (by rw [HD.out, hin, hm, hs]; rfl))
                have HS := Lib.hid (bit_set q j hM.out.1 (by omega))
                clear HD HN
                go_wp2
                refine wp_region_quiet_below (by kernel_rfl) (by kernel_rfl) ?_
                repeat (any_goals (first | go_big_quiet_step ((first | (go_at_call 71; exact Calls.regrown_of (within_ib _ _ _ _ hin)) | (go_at_call 67; exact Calls.regrown_of (implServes_is _ _ _ _ _ hs)))) | quiet_step ((first | (go_at_call 71; exact Calls.regrown_of (within_ib _ _ _ _ hin)) | (go_at_call 67; exact Calls.regrown_of (implServes_is _ _ _ _ _ hs))))))
                refine wpQuiet_nil ?_
                intro _ hw'
                obtain ⟨⟨dq, osq⟩, hw''⟩ := hw'
                subst hw''
                have bq := below_regrown (wr) dq osq
                revert bq
                generalize Go.Sort.grow (redrawn (wr) dq) osq = wq
                intro bq
                clear c3 k3 d0 d1 f0 f1 p0 p1 q0 q1 hw1 hbt
                go_wp2
                go_roundw
                case rel => exact ⟨k + 1, _, by omega, by go_num, by rw [HS.out.1], Lib.hid (by rw [HTK.out]; exact mask_push hM.out (by omega)), Lib.hid (nextW hB.out bq), HY⟩
                case measure => simp [intOf]; omega
        · obtain rfl : l = k := by omega
          have HR := Lib.hid (svB_all HE.out HL.out hno.out)
          go_wp2
          go_ret
          exact ⟨by rw [HR.out]; rfl, hB.out⟩
    · have HR : Hid (svB cs n ds m sv = false) := Lib.hid (by
        have : decide (sv.length = m) = false := decide_eq_false (by rw [HL.out]; exact hlm)
        simp [svB, this])
      have hne : ((l : Int) != (m : Int)) = true := by simp; omega
      go_enter Try.func34, Try.ntmps34
      go_wp2_with fail
      refine (servable_is _ _ cs ds n m _ _ _ HV1.out HV2.out e1).mono ?_
      rintro e w1 ⟨rfl, b1⟩
      go_wp2
      go_ret
      exact ⟨by rw [HR.out]; rfl, b1⟩
theorem specServeValid_is {r : Bool} (v1 v2 v3 : Value) (cs ds sv : List Int) (n m h1 h2 h3 : Nat) (w : World) (hv1 : SlF 2 w h1 v1 cs n) (hv2 : SlF 2 w h2 v2 ds m) (hv3 : Sl w h3 v3 sv) (h : svB cs n ds m sv = r) :
    Calls Try.prog 32 #[v1, v2, v3] w fun e w' => e = .returned (.bool r) ∧ Below w.heap.size w w' := h ▸ specServeValid_b v1 v2 v3 cs ds sv n m h1 h2 h3 w hv1 hv2 hv3
theorem implServeValid_is {r : Bool} (v1 v2 v3 : Value) (cs ds sv : List Int) (n m h1 h2 h3 : Nat) (w : World) (hv1 : SlF 2 w h1 v1 cs n) (hv2 : SlF 2 w h2 v2 ds m) (hv3 : Sl w h3 v3 sv) (h : svB cs n ds m sv = r) :
    Calls Try.prog 34 #[v1, v2, v3] w fun e w' => e = .returned (.bool r) ∧ Below w.heap.size w w' := h ▸ implServeValid_b v1 v2 v3 cs ds sv n m h1 h2 h3 w hv1 hv2 hv3

/-- The indexes of a list are indexes of spares, and needs are there for all. -/
def fitsL (cs ds : List Int) (n m : Nat) (sv : List Int) : Prop := (spTo cs n ∧ spTo ds m) ∧ sv.length ≤ m ∧ ∀ x, x < sv.length → 0 ≤ gi sv x ∧ gi sv x < n
theorem wst_bd {cs ds : List Int} {n m : Nat} {sv : List Int} (h : fitsL cs ds n m sv) : ∀ {k : Nat}, k ≤ sv.length → -50 * k ≤ wst cs ds sv k ∧ wst cs ds sv k ≤ 50 * k
  | 0, _ => by simp [wst]
  | k + 1, hk => by
    have h1 := wst_bd h (k := k) (by omega)
    have h2 := h.2.2 k (by omega)
    have h3 := (h.1.1 (gi sv k).toNat (by omega)).1
    have h4 := (h.1.2 k (by have := h.2.1; omega)).1
    rw [wst]; omega
theorem fits_of {cs ds : List Int} {n m : Nat} {sv : List Int} (h : svB cs n ds m sv = true) : fitsL cs ds n m sv := by
  obtain ⟨h1, h2, h3⟩ := svB_true.1 h
  simp only [bothB, Bool.and_eq_true, spB_true] at h1
  refine ⟨⟨h1.1.2, h1.2.2⟩, by omega, fun x hx => ?_⟩
  have := h3 x (by omega)
  simp only [vB, Bool.and_eq_true, inB_true] at this
  omega
/-- What ServeWaste answers. -/
def swI (cs : List Int) (n : Nat) (ds : List Int) (m : Nat) (sv : List Int) : Int := if svB cs n ds m sv then wst cs ds sv sv.length else -1

set_option maxRecDepth 100000 in
set_option maxHeartbeats 2000000 in
theorem wasteOf_b (v1 v2 v3 : Value) (cs ds sv : List Int) (n m h1 h2 h3 : Nat) (w : World) (hv1 : SlF 2 w h1 v1 cs n) (hv2 : SlF 2 w h2 v2 ds m) (hv3 : Sl w h3 v3 sv) (hf : fitsL cs ds n m sv) (hm5 : m ≤ 5) :
    Calls Try.prog 84 #[v1, v2, v3] w fun e w' => e = .returned (.int .i64 (wst cs ds sv sv.length)) ∧ Below w.heap.size w w' := by
  have HV1 := Lib.hid hv1
  have HV2 := Lib.hid hv2
  have HV3 := Lib.hid hv3
  have HF := Lib.hid hf
  have hlm := hf.2.1
  obtain ⟨a1, cap1, rfl, -⟩ := hv1
  obtain ⟨a2, cap2, rfl, -⟩ := hv2
  obtain ⟨a3, l, cap3, rfl, hl, hl2, -⟩ := hv3
  have HL := Lib.hid hl
  rw [hl] at hlm ⊢
  clear hl hf
  go_enter Try.func84, Try.ntmps84
  go_wp2
  go_loopw [7, 12] (fun s i wr => ∃ k : Nat, k ≤ l ∧ i = .int .i64 k ∧ s = .int .i64 (wst cs ds sv k) ∧ Hid (Below w.heap.size w wr)) (fun _ i _ => l - (intOf i).toNat)
  case atStart => exact ⟨0, Nat.zero_le _, rfl, rfl, Below.refl _ _⟩
  case round =>
    obtain ⟨k, hk, rfl, rfl, hB⟩ := hrel
    by_cases hlt : k < l
    · have V1 := Lib.hid (HV1.out.old hB.out)
      have V2 := Lib.hid (HV2.out.old hB.out)
      have V3 := Lib.hid (HV3.out.old hB.out)
      obtain ⟨_, _, _, e3, _, _, _, _, hc3⟩ := V3.out
      cases e3
      obtain ⟨b3, off3, rfl, hb3, hc3⟩ := hc3 (by omega)
      have c3 := hc3 k hlt
      obtain ⟨g1, g2⟩ := HF.out.2.2 k (by rw [HL.out]; exact hlt)
      have hws := wst_bd HF.out (k := k) (by rw [HL.out]; exact hk)
      obtain ⟨j, hj⟩ := Int.eq_ofNat_of_zero_le g1
      have hjn : j < n := by omega
      have HN : Hid (wst cs ds sv (k + 1) = wst cs ds sv k + (smi cs j - smi ds k)) := Lib.hid (by rw [wst, hj, Int.toNat_natCast])
      have s1 := (HF.out.1.1 j hjn).1
      have s2 := (HF.out.1.2 k (by omega)).1
      rw [hj] at c3
      clear hc3 g1 g2 hj
      obtain ⟨_, _, e2, _, _, _, _, hc1⟩ := V1.out
      cases e2
      obtain ⟨b1, off1, rfl, hb1, hc1⟩ := hc1 (by omega)
      obtain ⟨d0, -⟩ := cellsS hc1 hjn (Below.refl _ _) (World.block_lt_of_cell? wr _ (hc1 (j * 2) (by omega)))
      obtain ⟨_, _, e2, _, _, _, _, hc2⟩ := V2.out
      cases e2
      obtain ⟨b2, off2, rfl, hb2, hc2⟩ := hc2 (by omega)
      obtain ⟨f0, -⟩ := cellsS hc2 (by omega : k < m) (Below.refl _ _) (World.block_lt_of_cell? wr _ (hc2 (k * 2) (by omega)))
      clear hc1 hc2
      have hjn2 : (j : Int) < (n : Int) := by omega
      have hkm2 : (k : Int) < (m : Int) := by omega
      revert hws HN
      generalize wst cs ds sv k = S
      intro hws HN
      have hS1 : -250 ≤ S := by omega
      have hS2 : S ≤ 250 := by omega
      revert d0 f0 HN s1 s2
      generalize smi cs j = x
      generalize smi ds k = y
      intro s1 s2 d0 f0 HN
      have w1 : IntKind.i64.wrap (x - y) = x - y := IntWalk.i64_in _ (by omega)
      have w2 : IntKind.i64.wrap (S + (x - y)) = S + (x - y) := IntWalk.i64_in _ (by omega)
      clear hws
      go_wp2
      go_quiet (fail)
      clear w1 w2
      go_wp2
      go_roundw
      case rel => exact ⟨k + 1, by omega, by go_num, by rw [HN.out], Lib.hid (below_drewN hB.out _)⟩
      case measure => simp [intOf]; omega
    · obtain rfl : l = k := by omega
      go_wp2
      go_ret
      exact ⟨rfl, hB.out⟩

set_option maxRecDepth 100000 in
set_option maxHeartbeats 2000000 in
theorem specServeWaste_b (v1 v2 v3 : Value) (cs ds sv : List Int) (n m h1 h2 h3 : Nat) (w : World) (hv1 : SlF 2 w h1 v1 cs n) (hv2 : SlF 2 w h2 v2 ds m) (hv3 : Sl w h3 v3 sv) :
    Calls Try.prog 47 #[v1, v2, v3] w fun e w' => e = .returned (.int .i64 (swI cs n ds m sv)) ∧ Below w.heap.size w w' := by
  have HV1 := Lib.hid hv1
  have HV2 := Lib.hid hv2
  have HV3 := Lib.hid hv3
  cases e1 : svB cs n ds m sv with
  | false =>
    have HR : Hid (swI cs n ds m sv = -1) := Lib.hid (by simp [swI, e1])
    go_enter Try.func47, Try.ntmps47
    go_wp2_with fail
    refine (specServeValid_is _ _ _ cs ds sv n m _ _ _ _ HV1.out HV2.out HV3.out e1).mono ?_
    rintro e w1 ⟨rfl, b1⟩
    go_wp2
    go_ret
    exact ⟨by rw [HR.out]; rfl, b1⟩
  | true =>
    have HF := Lib.hid (fits_of e1)
    have HS := Lib.hid (svB_true.1 e1)
    have hm5 : m ≤ 5 := by
      have := HS.out.1
      simp only [bothB, Bool.and_eq_true, spB_true] at this
      omega
    obtain ⟨a1, cap1, rfl, -⟩ := hv1
    obtain ⟨a2, cap2, rfl, -⟩ := hv2
    obtain ⟨a3, l, cap3, rfl, hl, hl2, -⟩ := hv3
    have hlm : l = m := by rw [← hl]; exact HS.out.2.1
    subst hlm
    have HR : Hid (swI cs n ds l sv = wst cs ds sv l) := Lib.hid (by simp [swI, e1, hl])
    have HL := Lib.hid hl
    clear hl
    go_enter Try.func47, Try.ntmps47
    go_wp2_with fail
    refine (specServeValid_is _ _ _ cs ds sv n l _ _ _ _ HV1.out HV2.out HV3.out e1).mono ?_
    rintro e w1 ⟨rfl, b1⟩
    have B1 := Lib.hid b1
    clear b1 e1
    go_wp2
    go_loopw [7, 8] (fun s i wr => ∃ k : Nat, k ≤ l ∧ i = .int .i64 k ∧ s = .int .i64 (wst cs ds sv k) ∧ Hid (Below w.heap.size w wr)) (fun _ i _ => l - (intOf i).toNat)
    case atStart => exact ⟨0, Nat.zero_le _, rfl, rfl, B1⟩
    case round =>
      clear B1
      obtain ⟨k, hk, rfl, rfl, hB⟩ := hrel
      by_cases hlt : k < l
      · have V1 := Lib.hid (HV1.out.old hB.out)
        have V2 := Lib.hid (HV2.out.old hB.out)
        have V3 := Lib.hid (HV3.out.old hB.out)
        obtain ⟨_, _, _, e3, _, _, _, _, hc3⟩ := V3.out
        cases e3
        obtain ⟨b3, off3, rfl, hb3, hc3⟩ := hc3 (by omega)
        have c3 := hc3 k hlt
        obtain ⟨g1, g2⟩ := HF.out.2.2 k (by rw [HL.out]; exact hlt)
        have hws := wst_bd HF.out (k := k) (by rw [HL.out]; exact hk)
        obtain ⟨j, hj⟩ := Int.eq_ofNat_of_zero_le g1
        have hjn : j < n := by omega
        have HN : Hid (wst cs ds sv (k + 1) = wst cs ds sv k + smi cs j - smi ds k) := Lib.hid (by rw [wst, hj, Int.toNat_natCast]; omega)
        have s1 := (HF.out.1.1 j hjn).1
        have s2 := (HF.out.1.2 k (by omega)).1
        rw [hj] at c3
        clear hc3 g1 g2 hj
        obtain ⟨_, _, e2, _, _, _, _, hc1⟩ := V1.out
        cases e2
        obtain ⟨b1, off1, rfl, hb1, hc1⟩ := hc1 (by omega)
        obtain ⟨d0, -⟩ := cellsS hc1 hjn (Below.refl _ _) (World.block_lt_of_cell? wr _ (hc1 (j * 2) (by omega)))
        obtain ⟨_, _, e2, _, _, _, _, hc2⟩ := V2.out
        cases e2
        obtain ⟨b2, off2, rfl, hb2, hc2⟩ := hc2 (by omega)
        obtain ⟨f0, -⟩ := cellsS hc2 hlt (Below.refl _ _) (World.block_lt_of_cell? wr _ (hc2 (k * 2) (by omega)))
        clear hc1 hc2
        have hjn2 : (j : Int) < (n : Int) := by omega
        revert hws HN
        generalize wst cs ds sv k = S
        intro hws HN
        have hS1 : -250 ≤ S := by omega
        have hS2 : S ≤ 250 := by omega
        revert d0 f0 HN s1 s2
        generalize smi cs j = x
        generalize smi ds k = y
        intro s1 s2 d0 f0 HN
        have w1 : IntKind.i64.wrap (S + x) = S + x := IntWalk.i64_in _ (by omega)
        have w2 : IntKind.i64.wrap (S + x - y) = S + x - y := IntWalk.i64_in _ (by omega)
        clear hws
        go_wp2
        go_quiet (fail)
        clear w1 w2
        go_wp2
        go_roundw
        case rel => exact ⟨k + 1, by omega, by go_num, by rw [HN.out], Lib.hid (below_drewN hB.out _)⟩
        case measure => simp [intOf]; omega
      · obtain rfl : l = k := by omega
        go_wp2
        go_ret
        exact ⟨by rw [HR.out]; rfl, hB.out⟩

theorem implServeWaste_b (v1 v2 v3 : Value) (cs ds sv : List Int) (n m h1 h2 h3 : Nat) (w : World) (hv1 : SlF 2 w h1 v1 cs n) (hv2 : SlF 2 w h2 v2 ds m) (hv3 : Sl w h3 v3 sv) :
    Calls Try.prog 48 #[v1, v2, v3] w fun e w' => e = .returned (.int .i64 (swI cs n ds m sv)) ∧ Below w.heap.size w w' := by
  have HV1 := Lib.hid hv1
  have HV2 := Lib.hid hv2
  have HV3 := Lib.hid hv3
  clear hv1 hv2 hv3
  cases e1 : svB cs n ds m sv with
  | false =>
    have HR : Hid (swI cs n ds m sv = -1) := Lib.hid (by simp [swI, e1])
    go_enter Try.func48, Try.ntmps48
    go_wp2_with fail
    refine (implServeValid_is _ _ _ cs ds sv n m _ _ _ _ HV1.out HV2.out HV3.out e1).mono ?_
    rintro e w1 ⟨rfl, b1⟩
    go_wp2
    go_ret
    exact ⟨by rw [HR.out]; rfl, b1⟩
  | true =>
    have HF := Lib.hid (fits_of e1)
    have HS := Lib.hid (svB_true.1 e1)
    have hm5 : m ≤ 5 := by
      have := HS.out.1
      simp only [bothB, Bool.and_eq_true, spB_true] at this
      omega
    have HR : Hid (swI cs n ds m sv = wst cs ds sv sv.length) := Lib.hid (by simp [swI, e1])
    go_enter Try.func48, Try.ntmps48
    go_wp2_with fail
    refine (implServeValid_is _ _ _ cs ds sv n m _ _ _ _ HV1.out HV2.out HV3.out e1).mono ?_
    rintro e w1 ⟨rfl, b1⟩
    have B1 := Lib.hid b1
    have V1 := Lib.hid (HV1.out.old b1)
    have V2 := Lib.hid (HV2.out.old b1)
    have V3 := Lib.hid (HV3.out.old b1)
    clear b1 e1
    go_wp2_with fail
    refine (wasteOf_b _ _ _ cs ds sv n m _ _ _ _ V1.out V2.out V3.out HF.out hm5).mono ?_
    rintro e w2 ⟨rfl, b2⟩
    have B2 := Lib.hid (nextW B1.out b2)
    clear b2
    go_wp2
    go_ret
    exact ⟨by rw [HR.out]; rfl, B2.out⟩

end Go.Proofs.Ythbkimojbbkeiaa
