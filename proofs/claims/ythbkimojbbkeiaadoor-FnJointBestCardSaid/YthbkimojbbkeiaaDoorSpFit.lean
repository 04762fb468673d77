/- Contracts: SparesFit of the program and of the reference. -/
import Derived.Test.YthbkimojbbkeiaaDoorSp
import Derived.Lib.QuietBelow
import Derived.Deep.Cut
namespace Go.Proofs.YthbkimojbbkeiaaDoor
open Go.RowKit

theorem implServes_b (m k nm nk : Int) (w : World) :
    Calls Tryd.prog 31 #[.agg #[.int .i64 m, .int .i64 k], .agg #[.int .i64 nm, .int .i64 nk]] w fun e w' => e = .returned (.bool (srB m k nm nk)) ∧ Below w.heap.size w w' := by
  have B1 := Lib.hid (((Below.refl w.heap.size w).alloc (Nat.le_refl _) (.cells #[.int .i64 m, .int .i64 k] 30)).alloc (by simp) (.cells #[.int .i64 nm, .int .i64 nk] 30))
  by_cases h : k = nk
  · have hb : (k == nk) = true := by simp [h]
    have HH := Lib.hid h
    clear h
    go_enter Tryd.func31, Tryd.ntmps31
    go_wp2
    go_ret
    exact ⟨by simp [srB, HH.out], B1.out⟩
  · have hb : (k == nk) = false := by simp [h]
    have HH := Lib.hid h
    clear h
    go_enter Tryd.func31, Tryd.ntmps31
    go_wp2
    go_ret
    exact ⟨by simp [srB, HH.out], B1.out⟩
theorem implServes_is {r : Bool} (m k nm nk : Int) (w : World) (h : srB m k nm nk = r) :
    Calls Tryd.prog 31 #[.agg #[.int .i64 m, .int .i64 k], .agg #[.int .i64 nm, .int .i64 nk]] w fun e w' => e = .returned (.bool r) ∧ Below w.heap.size w w' := h ▸ implServes_b m k nm nk w
/-- The block of a struct of two ints. -/
theorem sameB {P : Program} {f : FuncId} {args : Array Value} {w : World} {v : Value} (h : Calls P f args w fun e w' => e = .returned v ∧ w = w') : Calls P f args w fun e w' => e = .returned v ∧ Below w.heap.size w w' :=
  h.mono fun _ _ ⟨he, hw⟩ => ⟨he, hw ▸ Below.refl _ _⟩
theorem box2 (w : World) (m f : Int) (t : TypeId) : Below w.heap.size w (w.alloc (.cells #[.int .i64 m, .int .i64 f] t)) ∧ (w.alloc (.cells #[.int .i64 m, .int .i64 f] t)).cell? ⟨w.heap.size, 0, none⟩ = some (.int .i64 m) ∧ (w.alloc (.cells #[.int .i64 m, .int .i64 f] t)).cell? ⟨w.heap.size, 1, none⟩ = some (.int .i64 f) := by
  have r0 := Row.new w #[.int .i64 m, .int .i64 f] t
  exact ⟨(Below.refl _ w).alloc (Nat.le_refl _) _, by rw [r0.cell]; rfl, by rw [r0.cell]; rfl⟩
/-- A list of one spare. -/
theorem built1 (w : World) (m k : Int) (t : TypeId) : SlF 2 (w.alloc (.cells #[.int .i64 m, .int .i64 k] t)) (w.heap.size + 1) (.slice (some ⟨w.heap.size, 0, none⟩) 1 1) [m, k] 1 := by
  obtain ⟨-, h0, h1⟩ := box2 w m k t
  refine ⟨_, _, rfl, rfl, by omega, by omega, by omega, fun _ => ⟨_, 0, rfl, by omega, fun j hj => ?_⟩⟩
  match j, hj with
  | 0, _ => exact h0
  | 1, _ => exact h1
theorem spB_one {most : Int} (h : 1 ≤ most) (nm nk : Int) : spB most [nm, nk] 1 = (inB nm 1 50 && inB nk 0 3) := by
  rw [Bool.eq_iff_iff, spB_true, Bool.and_eq_true, inB_true, inB_true]
  have e : spOk [nm, nk] 0 ↔ (1 ≤ nm ∧ nm ≤ 50) ∧ 0 ≤ nk ∧ nk ≤ 3 := by simp [spOk, smi, ski, gi]
  rw [← e]
  exact ⟨fun h1 => h1.2 0 (by omega), fun h1 => ⟨by simpa using h, fun i hi => by have : i = 0 := by omega
                                                                                  subst this; exact h1⟩⟩

/-- The next step of the search for the best. -/
theorem fit_no {cs : List Int} {nm nk : Int} {k : Nat} (h : srB (smi cs k) (ski cs k) nm nk = false) : fitTo cs nm nk (k + 1) = fitTo cs nm nk k := by simp [fitTo, h]
theorem fit_first {cs : List Int} {nm nk : Int} {k : Nat} (h : srB (smi cs k) (ski cs k) nm nk = true) (h0 : fitTo cs nm nk k < 0) : fitTo cs nm nk (k + 1) = k := by
  rw [fitTo, h, decide_eq_true h0]; rfl
theorem fit_less {cs : List Int} {nm nk : Int} {k j : Nat} (h : srB (smi cs k) (ski cs k) nm nk = true) (hj : fitTo cs nm nk k = j) (hl : smi cs k < smi cs j) : fitTo cs nm nk (k + 1) = k := by
  rw [fitTo, h, hj, Int.toNat_natCast, decide_eq_true hl]; simp
theorem fit_more {cs : List Int} {nm nk : Int} {k j : Nat} (hj : fitTo cs nm nk k = j) (hl : ¬ smi cs k < smi cs j) : fitTo cs nm nk (k + 1) = j := by
  have h0 : ¬ (j : Int) < 0 := by omega
  rw [fitTo, hj, Int.toNat_natCast, decide_eq_false hl, decide_eq_false h0]
  simp

set_option maxRecDepth 100000 in
set_option maxHeartbeats 2000000 in
theorem implSparesFit_b (v : Value) (nm nk : Int) (cs : List Int) (n hi : Nat) (w : World) (hv : SlF 2 w hi v cs n) :
    Calls Tryd.prog 11 #[v, .agg #[.int .i64 nm, .int .i64 nk]] w fun e w' => e = .returned (.tuple #[.int .i64 (fitI cs n nm nk), .bool (fitB cs n nm nk)]) ∧ Below w.heap.size w w' := by
  have hv0 := hv
  obtain ⟨a, cap, rfl, hl, hn, hcap, hcap2, hc⟩ := hv
  clear hl hc
  obtain ⟨b0, x0, x1⟩ := box2 w nm nk 30
  have B := Lib.hid b0
  have V := Lib.hid (hv0.old b0)
  have X0 := Lib.hid x0
  have X1 := Lib.hid x1
  clear b0 x0 x1 hv0
  have ZZ : Hid (fitOk cs n nm nk = false → fitI cs n nm nk = 0 ∧ fitB cs n nm nk = false) := Lib.hid fun h => by
    have h2 : fitR cs n nm nk = -1 := by unfold fitR; rw [h]; rfl
    unfold fitI fitB
    rw [h2]; exact ⟨rfl, rfl⟩
  go_enter Tryd.func11, Tryd.ntmps11
  go_upto_region 1 with (fail)
  revert B V X0 X1
  obtain ⟨W, hW⟩ : ∃ W, w.alloc (.cells #[.int .i64 nm, .int .i64 nk] 30) = W := ⟨_, rfl⟩
  rw [hW]
  intro B V X0 X1
  clear hW
  cases h1 : spB 10 cs n with
  | false =>
    have HZ := Lib.hid (ZZ.out (by simp [fitOk, h1]))
    go_wp2_with fail
    refine (implSparesValid_is _ cs n hi _ V.out h1).mono ?_
    rintro e w1 ⟨rfl, b⟩
    replace B := Lib.hid (nextW B.out b)
    clear b
    go_wp2
    go_ret2
    exact ⟨by rw [HZ.out.1, HZ.out.2]; rfl, B.out⟩
  | true =>
    have x0 := X0.out
    have x1 := X1.out
    go_wp2_with fail
    refine (implSparesValid_is _ cs n hi _ V.out h1).mono ?_
    rintro e w1 ⟨rfl, b⟩
    clear x0 x1
    replace B := Lib.hid (nextW B.out b)
    replace V := Lib.hid (V.out.old b)
    replace X0 := Lib.hid (cellB X0.out b)
    replace X1 := Lib.hid (cellB X1.out b)
    clear b
    have x0 := X0.out
    have x1 := X1.out
    have S1 := Lib.hid (built1 w1 nm nk 30)
    have b := (box2 w1 nm nk 30).1
    replace B := Lib.hid (nextW B.out b)
    replace V := Lib.hid (V.out.old b)
    replace X0 := Lib.hid (cellB X0.out b)
    replace X1 := Lib.hid (cellB X1.out b)
    clear b
    cases h2 : (inB nm 1 50 && inB nk 0 3) with
    | false =>
      have HZ := Lib.hid (ZZ.out (by simp only [fitOk, h1, h2]; rfl))
      go_wp2_with fail
      refine (sparesUp_is _ 1 [nm, nk] 1 _ _ S1.out ((spB_one (Int.le_refl 1) nm nk).trans h2)).mono ?_
      rintro e w2 ⟨rfl, b⟩
      clear x0 x1
      replace B := Lib.hid (nextW B.out b)
      clear b
      go_wp2
      go_ret2
      exact ⟨by rw [HZ.out.1, HZ.out.2]; rfl, B.out⟩
    | true =>
      have HF : Hid (fitI cs n nm nk = (if fitTo cs nm nk n < 0 then 0 else fitTo cs nm nk n) ∧ fitB cs n nm nk = decide (0 ≤ fitTo cs nm nk n)) := Lib.hid (by
        have h3 : fitOk cs n nm nk = true := by simp only [fitOk, h1, h2]; rfl
        unfold fitI fitB fitR
        rw [h3]; exact ⟨rfl, rfl⟩)
      have hn10 := (spB_true.1 h1).1
      go_wp2_with fail
      refine (sparesUp_is _ 1 [nm, nk] 1 _ _ S1.out ((spB_one (Int.le_refl 1) nm nk).trans h2)).mono ?_
      rintro e w2 ⟨rfl, b⟩
      clear x0 x1
      replace B := Lib.hid (nextW B.out b)
      replace V := Lib.hid (V.out.old b)
      replace X0 := Lib.hid (cellB X0.out b)
      replace X1 := Lib.hid (cellB X1.out b)
      clear b S1 ZZ
      clear h1 h2
      go_wp2
      go_loopw [6, 20] (fun s i wr => ∃ k : Nat, k ≤ n ∧ i = .int .i64 k ∧ s = .int .i64 (fitTo cs nm nk k) ∧ Hid (Below w2.heap.size w2 wr)) (fun _ i _ => n - (intOf i).toNat)
      case atStart => exact ⟨0, Nat.zero_le _, rfl, rfl, Below.refl _ _⟩
      case round =>
        obtain ⟨k, hk, rfl, rfl, hB⟩ := hrel
        have hbd := fitTo_bd (cs := cs) (nm := nm) (nk := nk) (k := k)
        by_cases hlt : k < n
        · obtain ⟨_, _, e1, _, _, _, _, hc⟩ := V.out
          cases e1
          obtain ⟨b, off, rfl, hbh, hc⟩ := hc (by omega)
          have hbw := World.block_lt_of_cell? w2 _ (hc (k * 2) (by omega))
          have hb2 := (Below.refl wr.heap.size wr).alloc (Nat.le_refl _) (.cells #[.int .i64 (smi cs k), .int .i64 (ski cs k)] 30)
          have hB2 := Lib.hid (nextW hB.out hb2)
          obtain ⟨c0, c1⟩ := cellsS hc hlt hB.out hbw
          obtain ⟨d0, d1⟩ := cellsS hc hlt hB2.out hbw
          obtain ⟨-, y0, y1⟩ := box2 wr (smi cs k) (ski cs k) 30
          have x0 := cellB (cellB X0.out hB.out) hb2
          have x1 := cellB (cellB X1.out hB.out) hb2
          have u0 := cell_regrown x0
          have u1 := cell_regrown x1
          have u2 := cell_regrown y0
          have u3 := cell_regrown y1
          have u4 := cell_regrown d0
          cases hs : srB (smi cs k) (ski cs k) nm nk with
          | false =>
            have HN := Lib.hid (fit_no hs)
            clear hc hb2
            revert hbd HN
            generalize fitTo cs nm nk k = F
            intro hbd HN
            go_wp2
            refine wp_region_quiet_below (by kernel_rfl) (by kernel_rfl) ?_
            repeat (any_goals (first | go_big_quiet_step (((go_at_call 31; exact Calls.regrown_of (implServes_is _ _ _ _ _ hs)))) | quiet_step (((go_at_call 31; exact Calls.regrown_of (implServes_is _ _ _ _ _ hs))))))
            refine wpQuiet_nil ?_
            intro _ hw'
            obtain ⟨⟨dq, osq⟩, hw''⟩ := hw'
            subst hw''
            have bq := below_regrown (wr.alloc (.cells #[.int .i64 (smi cs k), .int .i64 (ski cs k)] 30)) dq osq
            revert bq
            generalize Go.Sort.grow (redrawn (wr.alloc (.cells #[.int .i64 (smi cs k), .int .i64 (ski cs k)] 30)) dq) osq = wq
            intro bq
            clear c0 c1 d0 d1 x0 x1 y0 y1 u0 u1 u2 u3 u4
            go_wp2
            go_roundw
            case rel => exact ⟨k + 1, by omega, by go_num, by rw [HN.out], Lib.hid (nextW hB2.out bq)⟩
            case measure => simp [intOf]; omega
          | true =>
            by_cases hF : fitTo cs nm nk k < 0
            · have HN := Lib.hid (fit_first hs hF)
              have hF2 : decide (fitTo cs nm nk k < 0) = true := decide_eq_true hF
              clear hc hb2
              revert hbd HN hF hF2
              generalize fitTo cs nm nk k = F
              intro hbd hF HN hF2
              go_wp2
              refine wp_region_quiet_below (by kernel_rfl) (by kernel_rfl) ?_
              repeat (any_goals (first | go_big_quiet_step (((go_at_call 31; exact Calls.regrown_of (implServes_is _ _ _ _ _ hs)))) | quiet_step (((go_at_call 31; exact Calls.regrown_of (implServes_is _ _ _ _ _ hs))))))
              refine wpQuiet_nil ?_
              intro _ hw'
              obtain ⟨⟨dq, osq⟩, hw''⟩ := hw'
              subst hw''
              have bq := below_regrown (wr.alloc (.cells #[.int .i64 (smi cs k), .int .i64 (ski cs k)] 30)) dq osq
              revert bq
              generalize Go.Sort.grow (redrawn (wr.alloc (.cells #[.int .i64 (smi cs k), .int .i64 (ski cs k)] 30)) dq) osq = wq
              intro bq
              clear c0 c1 d0 d1 x0 x1 y0 y1 u0 u1 u2 u3 u4
              go_wp2
              go_roundw
              case rel => exact ⟨k + 1, by omega, by go_num, by rw [HN.out], Lib.hid (nextW hB2.out bq)⟩
              case measure => simp [intOf]; omega
            · obtain ⟨j, hj⟩ := Int.eq_ofNat_of_zero_le (by omega : 0 ≤ fitTo cs nm nk k)
              have hjn : j < n := by omega
              have HL := Lib.hid fun h => fit_less hs hj h
              have HM := Lib.hid fun h => fit_more (k := k) hj h
              obtain ⟨e0, -⟩ := cellsS hc hjn hB2.out hbw
              have u5 := cell_regrown e0
              rw [hj] at hF hbd ⊢
              have hF2 : decide ((j : Int) < 0) = false := decide_eq_false hF
              clear hc hb2 hF hbd hj
              by_cases hl : smi cs k < smi cs j
              · have hl2 : decide (smi cs k < smi cs j) = true := decide_eq_true hl
                have HN := Lib.hid (HL.out hl)
                clear HL HM hl
                go_wp2
                refine wp_region_quiet_below (by kernel_rfl) (by kernel_rfl) ?_
                repeat (any_goals (first | go_big_quiet_step (((go_at_call 31; exact Calls.regrown_of (implServes_is _ _ _ _ _ hs)))) | quiet_step (((go_at_call 31; exact Calls.regrown_of (implServes_is _ _ _ _ _ hs))))))
                refine wpQuiet_nil ?_
                intro _ hw'
                obtain ⟨⟨dq, osq⟩, hw''⟩ := hw'
                subst hw''
                have bq := below_regrown (wr.alloc (.cells #[.int .i64 (smi cs k), .int .i64 (ski cs k)] 30)) dq osq
                revert bq
                generalize Go.Sort.grow (redrawn (wr.alloc (.cells #[.int .i64 (smi cs k), .int .i64 (ski cs k)] 30)) dq) osq = wq
                intro bq
                clear c0 c1 d0 d1 x0 x1 y0 y1 u0 u1 u2 u3 u4 u5 e0
                go_wp2
                go_roundw
                case rel => exact ⟨k + 1, by omega, by go_num, by rw [HN.out], Lib.hid (nextW hB2.out bq)⟩
                case measure => simp [intOf]; omega
              · have hl2 : decide (smi cs k < smi cs j) = false := decide_eq_false hl
                have HN := Lib.hid (HM.out hl)
                clear HL HM hl
                go_wp2
                refine wp_region_quiet_below (by kernel_rfl) (by kernel_rfl) ?_
                repeat (any_goals (first | go_big_quiet_step (((go_at_call 31; exact Calls.regrown_of (implServes_is _ _ _ _ _ hs)))) | quiet_step (((go_at_call 31; exact Calls.regrown_of (implServes_is _ _ _ _ _ hs))))))
                refine wpQuiet_nil ?_
                intro _ hw'
                obtain ⟨⟨dq, osq⟩, hw''⟩ := hw'
                subst hw''
                have bq := below_regrown (wr.alloc (.cells #[.int .i64 (smi cs k), .int .i64 (ski cs k)] 30)) dq osq
                revert bq
                generalize Go.Sort.grow (redrawn (wr.alloc (.cells #[.int .i64 (smi cs k), .int .i64 (ski cs k)] 30)) dq) osq = wq
                intro bq
                clear c0 c1 d0 d1 x0 x1 y0 y1 u0 u1 u2 u3 u4 u5 e0
                go_wp2
                go_roundw
                case rel => exact ⟨k + 1, by omega, by go_num, by rw [HN.out], Lib.hid (nextW hB2.out bq)⟩
                case measure => simp [intOf]; omega
        · obtain rfl : n = k := by omega
          by_cases hF : fitTo cs nm nk n < 0
          · have HZ : Hid (fitI cs n nm nk = 0 ∧ fitB cs n nm nk = false) := Lib.hid (by rw [HF.out.1, HF.out.2, if_pos hF, decide_eq_false (by omega)]; exact ⟨rfl, rfl⟩)
            have hF2 : decide (fitTo cs nm nk n < 0) = true := decide_eq_true hF
            clear HF
            revert hF hF2 hbd
            generalize fitTo cs nm nk n = F
            intro hbd hF hF2
            go_wp2
            go_ret2
            exact ⟨by rw [HZ.out.1, HZ.out.2]; rfl, nextW B.out hB.out⟩
          · have HZ : Hid (fitI cs n nm nk = fitTo cs nm nk n ∧ fitB cs n nm nk = true) := Lib.hid (by rw [HF.out.1, HF.out.2, if_neg hF, decide_eq_true (by omega)]; exact ⟨rfl, rfl⟩)
            have hF2 : decide (fitTo cs nm nk n < 0) = false := decide_eq_false hF
            clear HF
            revert hF hF2 hbd HZ
            generalize fitTo cs nm nk n = F
            intro hbd hF HZ hF2
            go_wp2
            go_ret2
            exact ⟨by rw [HZ.out.1, HZ.out.2]; rfl, nextW B.out hB.out⟩

end Go.Proofs.YthbkimojbbkeiaaDoor
