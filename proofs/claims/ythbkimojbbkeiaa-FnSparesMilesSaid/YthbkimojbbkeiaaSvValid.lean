/- Contracts: ServeValid and ServeWaste of the reference and of the program. -/
import Derived.Test.YthbkimojbbkeiaaSpFit
import Derived.Test.YthbkimojbbkeiaaInts
import Derived.Test.YthbkimojbbkeiaaSvLaw
import Derived.Test.YthbkimojbbkeiaaBits
import Derived.BigQuiet
namespace Go.Proofs.Ythbkimojbbkeiaa
open Go.RowKit

theorem sameB {P : Program} {f : FuncId} {args : Array Value} {w : World} {v : Value} (h : Calls P f args w fun e w' => e = .returned v ∧ w = w') : Calls P f args w fun e w' => e = .returned v ∧ Below w.heap.size w w' :=
  h.mono fun _ _ ⟨he, hw⟩ => ⟨he, hw ▸ Below.refl _ _⟩
theorem within_ib {r : Bool} (n a b : Int) (w : World) (h : inB n a b = r) : Calls Try.prog 71 #[.int .i64 n, .int .i64 a, .int .i64 b] w fun e w' => e = .returned (.bool r) ∧ Below w.heap.size w w' := sameB (within_is n a b w h)
theorem l6In_ib {r : Bool} (n a b : Int) (w : World) (h : inB n a b = r) : Calls Try.prog 63 #[.int .i64 n, .int .i64 a, .int .i64 b] w fun e w' => e = .returned (.bool r) ∧ Below w.heap.size w w' := sameB (l6In_is n a b w h)
theorem l4Has_ib {r : Bool} (v : Value) (xs : List Int) (x : Int) (hi : Nat) (w : World) (hv : Sl w hi v xs) (h : memB xs x = r) :
    Calls Try.prog 69 #[v, .int .i64 x] w fun e w' => e = .returned (.bool r) ∧ Below w.heap.size w w' := sameB (l4Has_is v xs x hi w hv h)

theorem Sl.cut {w : World} {hi : Nat} {a : Option Addr} {n cap : Nat} {xs : List Int} (h : Sl w hi (.slice a n cap) xs) {k : Nat} (hk : k ≤ n) : Sl w hi (.slice a k cap) (xs.take k) := by
  obtain ⟨a', n', cap', he, h1, h2, h3, h4, h5⟩ := h
  cases he
  refine ⟨a, k, cap, rfl, by simp; omega, by omega, by omega, h4, fun hn => ?_⟩
  obtain ⟨b, off, rfl, hb, hc⟩ := h5 (by omega)
  refine ⟨b, off, rfl, hb, fun j hj => ?_⟩
  rw [hc j (by omega)]
  simp [gi, hj]

/-- Two lists are spares and needs. -/
def bothB (cs : List Int) (n : Nat) (ds : List Int) (m : Nat) : Bool := spB 10 cs n && spB 5 ds m
theorem both5 {ds : List Int} {m : Nat} (h : spB 10 ds m = true) : spB 5 ds m = decide ((m : Int) ≤ 5) := spB_all (spB_true.1 h).2
theorem both10 {ds : List Int} {m : Nat} (h : spB 10 ds m = false) : spB 5 ds m = false := by
  cases e : spB 5 ds m with
  | false => rfl
  | true =>
    have := spB_true.1 e
    rw [spB_true.2 ⟨by omega, this.2⟩] at h
    cases h

theorem l4Both_b (v1 v2 : Value) (cs ds : List Int) (n m h1 h2 : Nat) (w : World) (hv1 : SlF 2 w h1 v1 cs n) (hv2 : SlF 2 w h2 v2 ds m) :
    Calls Try.prog 68 #[v1, v2] w fun e w' => e = .returned (.bool (bothB cs n ds m)) ∧ w = w' := by
  have HV1 := Lib.hid hv1
  have HV2 := Lib.hid hv2
  obtain ⟨a2, cap2, rfl, -⟩ := hv2
  clear hv1
  cases e1 : spB 10 cs n with
  | false =>
    have HR : Hid (bothB cs n ds m = false) := Lib.hid (by simp [bothB, e1])
    go_enter Try.func68, Try.ntmps68
    go_wp2_with fail
    refine (specSparesValid_is _ cs n _ _ HV1.out e1).mono ?_
    rintro e _ ⟨rfl, rfl⟩
    go_wp2
    go_ret
    exact ⟨by rw [HR.out]; rfl, rfl⟩
  | true =>
    cases e2 : spB 10 ds m with
    | false =>
      have HR : Hid (bothB cs n ds m = false) := Lib.hid (by simp [bothB, both10 e2])
      go_enter Try.func68, Try.ntmps68
      go_wp2_with fail
      refine (specSparesValid_is _ cs n _ _ HV1.out e1).mono ?_
      rintro e _ ⟨rfl, rfl⟩
      go_wp2_with fail
      refine (specSparesValid_is _ ds m _ _ HV2.out e2).mono ?_
      rintro e _ ⟨rfl, rfl⟩
      go_wp2
      go_ret
      exact ⟨by rw [HR.out]; rfl, rfl⟩
    | true =>
      have HR : Hid (bothB cs n ds m = decide ((m : Int) ≤ 5)) := Lib.hid (by simp [bothB, e1, both5 e2])
      go_enter Try.func68, Try.ntmps68
      go_wp2_with fail
      refine (specSparesValid_is _ cs n _ _ HV1.out e1).mono ?_
      rintro e _ ⟨rfl, rfl⟩
      go_wp2_with fail
      refine (specSparesValid_is _ ds m _ _ HV2.out e2).mono ?_
      rintro e _ ⟨rfl, rfl⟩
      go_wp2
      go_ret
      exact ⟨by rw [HR.out]; rfl, rfl⟩
theorem servable_b (v1 v2 : Value) (cs ds : List Int) (n m h1 h2 : Nat) (w : World) (hv1 : SlF 2 w h1 v1 cs n) (hv2 : SlF 2 w h2 v2 ds m) :
    Calls Try.prog 70 #[v1, v2] w fun e w' => e = .returned (.bool (bothB cs n ds m)) ∧ Below w.heap.size w w' := by
  have HV1 := Lib.hid hv1
  have HV2 := Lib.hid hv2
  clear hv1 hv2
  cases e1 : spB 10 cs n with
  | false =>
    have HR : Hid (bothB cs n ds m = false) := Lib.hid (by simp [bothB, e1])
    go_enter Try.func70, Try.ntmps70
    go_wp2_with fail
    refine (implSparesValid_is _ cs n _ _ HV1.out e1).mono ?_
    rintro e w1 ⟨rfl, b1⟩
    go_wp2
    go_ret
    exact ⟨by rw [HR.out]; rfl, b1⟩
  | true =>
    have HR : Hid (bothB cs n ds m = spB 5 ds m) := Lib.hid (by simp [bothB, e1])
    go_enter Try.func70, Try.ntmps70
    go_wp2_with fail
    refine (implSparesValid_is _ cs n _ _ HV1.out e1).mono ?_
    rintro e w1 ⟨rfl, b1⟩
    have B1 := Lib.hid b1
    have V2 := Lib.hid (HV2.out.old b1)
    clear b1
    go_wp2_with fail
    refine (sparesUp_b _ 5 ds m _ _ V2.out).mono ?_
    rintro e w2 ⟨rfl, b2⟩
    have B2 := Lib.hid (nextW B1.out b2)
    clear b2
    go_wp2
    go_ret
    exact ⟨by rw [HR.out]; rfl, B2.out⟩
theorem l4Both_is {r : Bool} (v1 v2 : Value) (cs ds : List Int) (n m h1 h2 : Nat) (w : World) (hv1 : SlF 2 w h1 v1 cs n) (hv2 : SlF 2 w h2 v2 ds m) (h : bothB cs n ds m = r) :
    Calls Try.prog 68 #[v1, v2] w fun e w' => e = .returned (.bool r) ∧ w = w' := h ▸ l4Both_b v1 v2 cs ds n m h1 h2 w hv1 hv2
theorem servable_is {r : Bool} (v1 v2 : Value) (cs ds : List Int) (n m h1 h2 : Nat) (w : World) (hv1 : SlF 2 w h1 v1 cs n) (hv2 : SlF 2 w h2 v2 ds m) (h : bothB cs n ds m = r) :
    Calls Try.prog 70 #[v1, v2] w fun e w' => e = .returned (.bool r) ∧ Below w.heap.size w w' := h ▸ servable_b v1 v2 cs ds n m h1 h2 w hv1 hv2

/-- Place x of a list is served. -/
def vB (cs ds : List Int) (n : Nat) (sv : List Int) (x : Nat) : Bool :=
  inB (gi sv x) 0 ((n : Int) - 1) && (!memB (sv.take x) (gi sv x) && srB (smi cs (gi sv x).toNat) (ski cs (gi sv x).toNat) (smi ds x) (ski ds x))
def vTo (cs ds : List Int) (n : Nat) (sv : List Int) (k : Nat) : Prop := ∀ x, x < k → vB cs ds n sv x = true
instance (cs ds : List Int) (n : Nat) (sv : List Int) (k : Nat) : Decidable (vTo cs ds n sv k) := by unfold vTo; infer_instance
/-- What ServeValid answers. -/
def svB (cs : List Int) (n : Nat) (ds : List Int) (m : Nat) (sv : List Int) : Bool := bothB cs n ds m && (decide (sv.length = m) && decide (vTo cs ds n sv m))
theorem vTo_succ {cs ds : List Int} {n : Nat} {sv : List Int} {k : Nat} (h : vTo cs ds n sv k) (h1 : vB cs ds n sv k = true) : vTo cs ds n sv (k + 1) := fun i hi => by
  by_cases e : i = k
  · subst e; exact h1
  · exact h i (by omega)
theorem svB_no_at {cs ds : List Int} {n m : Nat} {sv : List Int} {k : Nat} (hk : k < m) (h : vB cs ds n sv k = false) : svB cs n ds m sv = false := by
  have : decide (vTo cs ds n sv m) = false := decide_eq_false fun hh => by rw [hh k hk] at h; cases h
  simp [svB, this]
theorem svB_all {cs ds : List Int} {n m : Nat} {sv : List Int} (h1 : bothB cs n ds m = true) (h2 : sv.length = m) (h3 : vTo cs ds n sv m) : svB cs n ds m sv = true := by
  simp [svB, h1, h2, h3]
theorem svB_true {cs ds : List Int} {n m : Nat} {sv : List Int} : svB cs n ds m sv = true ↔ bothB cs n ds m = true ∧ sv.length = m ∧ vTo cs ds n sv m := by simp [svB]

set_option maxRecDepth 100000 in
set_option maxHeartbeats 2000000 in
theorem specServeValid_b (v1 v2 v3 : Value) (cs ds sv : List Int) (n m h1 h2 h3 : Nat) (w : World) (hv1 : SlF 2 w h1 v1 cs n) (hv2 : SlF 2 w h2 v2 ds m) (hv3 : Sl w h3 v3 sv) :
    Calls Try.prog 32 #[v1, v2, v3] w fun e w' => e = .returned (.bool (svB cs n ds m sv)) ∧ Below w.heap.size w w' := by
  have HV1 := Lib.hid hv1
  have HV2 := Lib.hid hv2
  have HV3 := Lib.hid hv3
  obtain ⟨a1, cap1, rfl, -⟩ := hv1
  obtain ⟨a2, cap2, rfl, -⟩ := hv2
  obtain ⟨a3, l, cap3, rfl, hl, hl2, -⟩ := hv3
  have HL := Lib.hid hl
  clear hl
  cases e1 : bothB cs n ds m with
  | false =>
    have HR : Hid (svB cs n ds m sv = false) := Lib.hid (by simp [svB, e1])
    go_enter Try.func32, Try.ntmps32
    go_wp2_with fail
    refine (l4Both_is _ _ cs ds n m _ _ _ HV1.out HV2.out e1).mono ?_
    rintro e _ ⟨rfl, rfl⟩
    go_wp2
    go_ret
    exact ⟨by rw [HR.out]; rfl, Below.refl _ _⟩
  | true =>
    by_cases hlm : l = m
    · subst hlm
      have HT1 := Lib.hid (spB_true.1 (Bool.and_eq_true_iff.1 e1).1)
      have HE := Lib.hid e1
      have hn10 := HT1.out.1
      go_enter Try.func32, Try.ntmps32
      go_wp2_with fail
      refine (l4Both_is _ _ cs ds n l _ _ _ HV1.out HV2.out e1).mono ?_
      rintro e _ ⟨rfl, rfl⟩
      clear e1
      go_wp2
      go_loopw [7] (fun i wr => ∃ k : Nat, k ≤ l ∧ i = .int .i64 k ∧ Hid (Below w.heap.size w wr) ∧ Hid (vTo cs ds n sv k)) (fun i _ => l - (intOf i).toNat)
      case atStart => exact ⟨0, Nat.zero_le _, rfl, Below.refl _ _, fun j hj => absurd hj (by omega)⟩
      case round =>
        obtain ⟨k, hk, rfl, hB, hno⟩ := hrel
        by_cases hlt : k < l
        · have V1 := Lib.hid (HV1.out.old hB.out)
          have V3 := Lib.hid (HV3.out.old hB.out)
          obtain ⟨_, _, _, e3, _, _, _, _, hc3⟩ := V3.out
          cases e3
          obtain ⟨b3, off3, rfl, hb3, hc3⟩ := hc3 (by omega)
          have c3 := hc3 k hlt
          have k3 := cell_regrown c3
          clear hc3
          have HD : Hid (vB cs ds n sv k = (inB (gi sv k) 0 ((n : Int) - 1) && (!memB (sv.take k) (gi sv k) && srB (smi cs (gi sv k).toNat) (ski cs (gi sv k).toNat) (smi ds k) (ski ds k)))) := Lib.hid rfl
          have HN := Lib.hid fun h => svB_no_at (m := l) (cs := cs) (ds := ds) (n := n) (sv := sv) hlt h
          have hw1 : IntKind.i64.wrap ((n : Int) - 1) = (n : Int) - 1 := IntWalk.i64_in _ (by omega)
          cases hin : inB (gi sv k) 0 ((n : Int) - 1) with
          | false =>
            replace HN := Lib.hid (HN.out (by rw [HD.out, hin]; rfl))
            clear HD
            go_wp2
            refine wp_region_quiet_below (by kernel_rfl) (by kernel_rfl) ?_
            repeat (any_goals (first | go_big_quiet_step (((go_at_call 63; exact Calls.regrown_of (l6In_ib _ _ _ _ hin)))) | quiet_step (((go_at_call 63; exact Calls.regrown_of (l6In_ib _ _ _ _ hin))))))
            refine wpQuiet_nil ?_
            intro _ hw'
            obtain ⟨⟨dq, osq⟩, hw''⟩ := hw'
            subst hw''
            have bq := below_regrown (wr) dq osq
            revert bq
            generalize Go.Sort.grow (redrawn (wr) dq) osq = wq
            intro bq
            clear c3 k3 hw1
            go_wp2
            go_ret
            exact ⟨by rw [HN.out]; rfl, nextW hB.out bq⟩
          | true =>
            obtain ⟨i1, i2⟩ := inB_true.1 hin
            obtain ⟨j, hj⟩ := Int.eq_ofNat_of_zero_le i1
            have hjn : j < n := by omega
            rw [hj] at c3 k3 hin HD
            simp only [Int.toNat_natCast] at HD
            clear i1 i2 hj
            have V2 := Lib.hid (HV2.out.old hB.out)
            have HV3' := Lib.hid (V3.out.cut hk)
            obtain ⟨_, _, e2, _, _, _, _, hc1⟩ := V1.out
            cases e2
            obtain ⟨b1, off1, rfl, hb1, hc1⟩ := hc1 (by omega)
            obtain ⟨d0, d1⟩ := cellsS hc1 hjn (Below.refl _ _) (World.block_lt_of_cell? wr _ (hc1 (j * 2) (by omega)))
            obtain ⟨_, _, e2, _, _, _, _, hc2⟩ := V2.out
            cases e2
            obtain ⟨b2, off2, rfl, hb2, hc2⟩ := hc2 (by omega)
            obtain ⟨f0, f1⟩ := cellsS hc2 hlt (Below.refl _ _) (World.block_lt_of_cell? wr _ (hc2 (k * 2) (by omega)))
            clear hc1 hc2
            have p0 := cell_regrown d0
            have p1 := cell_regrown d1
            have q0 := cell_regrown f0
            have q1 := cell_regrown f1
            have hjn2 : (j : Int) < (n : Int) := by omega
            cases hm : memB (sv.take k) (j : Int) with
            | true =>
              replace HN := Lib.hid (HN.out (by rw [HD.out, hin, hm]; rfl))
              clear HD
              go_wp2
              refine wp_region_quiet_below (by kernel_rfl) (by kernel_rfl) ?_
              repeat (any_goals (first | go_big_quiet_step ((first | (go_at_call 63; exact Calls.regrown_of (l6In_ib _ _ _ _ hin)) | (go_at_call 69; exact Calls.regrown_of (l4Has_ib _ (sv.take k) _ _ _ (HV3'.out.old (below_regrown _ _ _)) hm)))) | quiet_step ((first | (go_at_call 63; exact Calls.regrown_of (l6In_ib _ _ _ _ hin)) | (go_at_call 69; exact Calls.regrown_of (l4Has_ib _ (sv.take k) _ _ _ (HV3'.out.old (below_regrown _ _ _)) hm))))))
              refine wpQuiet_nil ?_
              intro _ hw'
              obtain ⟨⟨dq, osq⟩, hw''⟩ := hw'
              subst hw''
              have bq := below_regrown (wr) dq osq
              revert bq
              generalize Go.Sort.grow (redrawn (wr) dq) osq = wq
              intro bq
              clear c3 k3 d0 d1 f0 f1 p0 p1 q0 q1 hw1
              go_wp2
              go_ret
              exact ⟨by rw [HN.out]; rfl, nextW hB.out bq⟩
            | false =>
              cases hs : srB (smi cs j) (ski cs j) (smi ds k) (ski ds k) with
              | false =>
                replace HN := Lib.hid (HN.out (by rw [HD.out, hin, hm, hs]; rfl))
                clear HD
                go_wp2
                refine wp_region_quiet_below (by kernel_rfl) (by kernel_rfl) ?_
                repeat (any_goals (first | go_big_quiet_step ((first | (go_at_call 63; exact Calls.regrown_of (l6In_ib _ _ _ _ hin)) | (go_at_call 69; exact Calls.regrown_of (l4Has_ib _ (sv.take k) _ _ _ (HV3'.out.old (below_regrown _ _ _)) hm)) | (go_at_call 66; exact Calls.regrown_of (specServes_is _ _ _ _ _ hs)))) | quiet_step ((first | (go_at_call 63; exact Calls.regrown_of (l6In_ib _ _ _ _ hin)) | (go_at_call 69; exact Calls.regrown_of (l4Has_ib _ (sv.take k) _ _ _ (HV3'.out.old (below_regrown _ _ _)) hm)) | (go_at_call 66; exact Calls.regrown_of (specServes_is _ _ _ _ _ hs))))))
                refine wpQuiet_nil ?_
                intro _ hw'
                obtain ⟨⟨dq, osq⟩, hw''⟩ := hw'
                subst hw''
                have bq := below_regrown (wr) dq osq
                revert bq
                generalize Go.Sort.grow (redrawn (wr) dq) osq = wq
                intro bq
                clear c3 k3 d0 d1 f0 f1 p0 p1 q0 q1 hw1
                go_wp2
                go_ret
                exact ⟨by rw [HN.out]; rfl, nextW hB.out bq⟩
              | true =>
                have HY := Lib.hid (vTo_succ hno.out (by rw [HD.out, hin, hm, hs]; rfl))
                clear HD HN
                go_wp2
                refine wp_region_quiet_below (by kernel_rfl) (by kernel_rfl) ?_
                repeat (any_goals (first | go_big_quiet_step ((first | (go_at_call 63; exact Calls.regrown_of (l6In_ib _ _ _ _ hin)) | (go_at_call 69; exact Calls.regrown_of (l4Has_ib _ (sv.take k) _ _ _ (HV3'.out.old (below_regrown _ _ _)) hm)) | (go_at_call 66; exact Calls.regrown_of (specServes_is _ _ _ _ _ hs)))) | quiet_step ((first | (go_at_call 63; exact Calls.regrown_of (l6In_ib _ _ _ _ hin)) | (go_at_call 69; exact Calls.regrown_of (l4Has_ib _ (sv.take k) _ _ _ (HV3'.out.old (below_regrown _ _ _)) hm)) | (go_at_call 66; exact Calls.regrown_of (specServes_is _ _ _ _ _ hs))))))
                refine wpQuiet_nil ?_
                intro _ hw'
                obtain ⟨⟨dq, osq⟩, hw''⟩ := hw'
                subst hw''
                have bq := below_regrown (wr) dq osq
                revert bq
                generalize Go.Sort.grow (redrawn (wr) dq) osq = wq
                intro bq
                clear c3 k3 d0 d1 f0 f1 p0 p1 q0 q1 hw1
                go_wp2
                go_roundw
                case rel => exact ⟨k + 1, by omega, by go_num, Lib.hid (nextW hB.out bq), HY⟩
                case measure => simp [intOf]; omega
        · obtain rfl : l = k := by omega
          have HR := Lib.hid (svB_all HE.out HL.out hno.out)
          go_wp2
          go_ret
          exact ⟨by rw [HR.out]; rfl, hB.out⟩
    · have HR : Hid (svB cs n ds m sv = false) := Lib.hid (by
        have : decide (sv.length = m) = false := decide_eq_false (by rw [HL.out]; exact hlm)
        simp [svB, this])
      have hne : ((l : Int) != (m : Int)) = true := by simp; omega
      go_enter Try.func32, Try.ntmps32
      go_wp2_with fail
      refine (l4Both_is _ _ cs ds n m _ _ _ HV1.out HV2.out e1).mono ?_
      rintro e _ ⟨rfl, rfl⟩
      go_wp2
      go_ret
      exact ⟨by rw [HR.out]; rfl, Below.refl _ _⟩

end Go.Proofs.Ythbkimojbbkeiaa
