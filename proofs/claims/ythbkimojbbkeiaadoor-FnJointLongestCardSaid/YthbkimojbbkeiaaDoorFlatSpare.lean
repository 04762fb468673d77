/- Contracts: the small functions of the laws on Spare values and lists of them. -/
import Derived.Test.YthbkimojbbkeiaaDoorFlat
import Derived.Lib.QuietBelow
namespace Go.Proofs.YthbkimojbbkeiaaDoor
open Go.RowKit

set_option maxHeartbeats 1000000 in
theorem toSpare_any (x0 x1 : Int) (w : World) :
    Calls Tryd.prog 38 #[.agg #[.int .i64 x0, .int .i64 x1]] w fun e w' => e = .returned (.agg #[.int .i64 x0, .int .i64 x1]) ∧ Below w.heap.size w w' := by
  go_enter Tryd.func38, Tryd.ntmps38
  go_wp2
  refine bodyPost_ret (v := .agg #[.int .i64 x0, .int .i64 x1]) (by simp [results, Tryd.results38, go_sem]) rfl ⟨rfl, ?_⟩
  exact (((Below.refl _ w).alloc (Nat.le_refl _) _).alloc (by simp) _).alloc (by simp; omega) _

theorem eqSpare_any (x0 x1 y0 y1 : Int) (w : World) :
    Calls Tryd.prog 39 #[.agg #[.int .i64 x0, .int .i64 x1], .agg #[.int .i64 y0, .int .i64 y1]] w fun e w' => e = .returned (.bool (decide (x0 = y0) && decide (x1 = y1))) ∧ Below w.heap.size w w' := by
  have b0 := Lib.hid (((Below.refl w.heap.size w).alloc (Nat.le_refl _) (.cells #[.int .i64 x0, .int .i64 x1] 30)).alloc (by simp) (.cells #[.int .i64 y0, .int .i64 y1] 30))
  by_cases h0 : x0 = y0
  · have e0 : (x0 != y0) = false := by simp [h0]
    have H0 := Lib.hid h0
    clear h0
    by_cases h1 : x1 = y1
    · have e1 : (x1 != y1) = false := by simp [h1]
      have H1 := Lib.hid h1
      clear h1
      go_enter Tryd.func39, Tryd.ntmps39
      go_wp2
      go_ret
      exact ⟨by rw [decide_eq_true H0.out, decide_eq_true H1.out]; rfl, b0.out⟩
    · have e1 : (x1 != y1) = true := by simp [h1]
      have H1 := Lib.hid h1
      clear h1
      go_enter Tryd.func39, Tryd.ntmps39
      go_wp2
      go_ret
      exact ⟨by rw [decide_eq_false H1.out]; simp, b0.out⟩
  · have e0 : (x0 != y0) = true := by simp [h0]
    have H0 := Lib.hid h0
    clear h0
    go_enter Tryd.func39, Tryd.ntmps39
    go_wp2
    go_ret
    exact ⟨by rw [decide_eq_false H0.out]; simp, b0.out⟩

theorem infoSpare : (Tryd.prog.info? 30).map (fun i => (i.zero, i.size, i.bytes)) = some (some (.agg #[.int .i64 0, .int .i64 0]), 2, 16) := by kernel_rfl
theorem mkSpare (n : Nat) (h : n ≤ 1048576) : ∃ cur : Array Value, cur.size = n * 2 ∧ ∀ w : World,
    (Instr.makeSlice 23 (.int .i64 n) (.int .i64 n)).run Tryd.prog w = .ok (.slice (some ⟨w.heap.size, 0, none⟩) n n) (w.alloc (.cells cur 30)) := by
  refine ⟨madeCells (Value.agg #[.int .i64 0, .int .i64 0]).cells (n * 2), size_madeCells _ _, fun w => ?_⟩
  obtain ⟨i, hi, hz, hs, hb⟩ := info_parts infoSpare
  have := run_make (P := Tryd.prog) w 23 30 i (.agg #[.int .i64 0, .int .i64 0]) Tryd.underlying23 hi hz .i64 .i64 n n (by omega) (Int.le_refl _) (by rw [hb]; omega) (by omega)
  simpa [hs] using this

set_option maxHeartbeats 1000000 in
theorem toSpareS_any (v : Value) (cs : List Int) (n hi : Nat) (w : World) (hv : SlF 2 w hi v cs n) :
    Calls Tryd.prog 15 #[v] w fun e w' => ∃ v', e = .returned v' ∧ Below w.heap.size w w' ∧ WrF 2 30 w' w.heap.size w'.heap.size v' cs n := by
  obtain ⟨a, cap, rfl, hl, hn, hcap, hcap2, hc⟩ := hv
  have HL := Lib.hid hl
  have HC := Lib.hid hc
  obtain ⟨cur, hcur, hmk⟩ := mkSpare n hn
  have hcur2 : n * 2 ≤ cur.size := Nat.le_of_eq hcur.symm
  clear hl hc hcur
  go_enter Tryd.func15, Tryd.ntmps15
  go_wp2
  clear hmk
  go_loopw [4] (fun i wr => ∃ (k : Nat) (cu : Array Value), k ≤ n ∧ i = .int .i64 k ∧ Hid (Below w.heap.size w wr) ∧ Hid (Row wr w.heap.size 30 cu) ∧ n * 2 ≤ cu.size ∧ Hid (∀ t, t < k * 2 → cu[t]? = some (.int .i64 (gi cs t)))) (fun i _ => n - (intOf i).toNat)
  case atStart => exact ⟨0, cur, Nat.zero_le _, rfl, (Below.refl _ w).alloc (Nat.le_refl _) _, Row.new _ _ _, hcur2, fun t ht => absurd ht (by omega)⟩
  case round =>
    obtain ⟨k, cu, hk, rfl, hB, hR, hsz, hno⟩ := hrel
    by_cases hlt : k < n
    · obtain ⟨b, off, rfl, hbh, hc⟩ := HC.out (by omega)
      obtain ⟨c0, c1⟩ := cel2 hc hlt hB.out (World.block_lt_of_cell? w _ (hc (k * 2) (by omega)))
      clear hc
      go_wp2_with fail
      refine (toSpare_any _ _  _).mono ?_
      rintro e w2 ⟨rfl, b2⟩
      have hR2 := hR.out.old b2
      have hB2 := Lib.hid (hB.out.trans (b2.mono hB.out.size))
      have d0 : w2.cell? ⟨w.heap.size, k * 2, none⟩ = some (cu[k * 2 + 0]'(by omega)) := by rw [hR2.cell]; simp
      have f0 := hR2.frozen (k * 2)
      have d1 : w2.cell? ⟨w.heap.size, k * 2 + 1, none⟩ = some (cu[k * 2 + 1]'(by omega)) := by rw [hR2.cell]; simp
      have f1 := hR2.frozen (k * 2 + 1)
      have HR2 := Lib.hid hR2
      clear hR2 b2
      go_wp2
      go_roundw
      case rel => exact ⟨k + 1, _, by omega, by go_num, ((hB2.out.setCell (p := ⟨w.heap.size, k * 2, none⟩) (Nat.le_refl _) _).setCell (p := ⟨w.heap.size, k * 2 + 1, none⟩) (Nat.le_refl _) _), ((HR2.out.set _ _).set _ _), by simpa using hsz, set_run2 (F := fun t => .int .i64 (gi cs t)) hno.out (by omega)⟩
      case measure => simp [intOf]; omega
    · obtain rfl : n = k := by omega
      go_wp2
      go_ret
      exact ⟨_, rfl, hB.out, ⟨_, n, rfl, HL.out, hn, Nat.le_refl _, by omega, fun _ => ⟨w.heap.size, 0, cu, rfl, Nat.le_refl _, hR.out.lt, hR.out, by omega, fun t ht => by simpa using hno.out t ht⟩⟩⟩

theorem szSpareS_ok (n : Nat) (a : Option Addr) (cap : Nat) (w : World) (l : Int) (h1 : l ≤ 1048576) (h : (n : Int) ≤ l) :
    Calls Tryd.prog 14 #[.slice a n cap, .int .i64 l] w fun e w' => e = .returned (.int .i64 (l - n)) ∧ w = w' := by
  have hd : decide (l - (n : Int) < 0) = false := decide_eq_false (by omega)
  have hd2 : decide (l < (n : Int)) = false := decide_eq_false (by omega)
  have hd3 : (0 : Int) ≤ l - n := by omega
  go_enter Tryd.func14, Tryd.ntmps14
  go_wp2
  go_ret
  exact ⟨rfl, rfl⟩
theorem szSpareS_no (n : Nat) (a : Option Addr) (cap : Nat) (w : World) (hn : n ≤ cap) (hc : cap ≤ 9223372036854775807) (l : Int) (h0 : 0 ≤ l) (h1 : l ≤ 1048576) (h : l < (n : Int)) :
    Calls Tryd.prog 14 #[.slice a n cap, .int .i64 l] w fun e w' => e = .returned (.int .i64 (-1)) ∧ w = w' := by
  have hd : decide (l - (n : Int) < 0) = true := decide_eq_true (by omega)
  have hd2 : decide (l < (n : Int)) = true := decide_eq_true (by omega)
  have hd3 : l - (n : Int) < 0 := by omega
  have hd4 : (-9223372036854775808 : Int) ≤ l - n := by omega
  go_enter Tryd.func14, Tryd.ntmps14
  go_wp2
  go_ret
  exact ⟨rfl, rfl⟩

theorem eqSpare_is {r : Bool} (x0 x1 y0 y1 : Int) (w : World) (h : (decide (x0 = y0) && decide (x1 = y1)) = r) :
    Calls Tryd.prog 39 #[.agg #[.int .i64 x0, .int .i64 x1], .agg #[.int .i64 y0, .int .i64 y1]] w fun e w' => e = .returned (.bool r) ∧ Below w.heap.size w w' := h ▸ eqSpare_any x0 x1 y0 y1 w
set_option maxHeartbeats 1000000 in
theorem eqSpareS_any (v1 v2 : Value) (cs ds : List Int) (n m h1 h2 : Nat) (w : World) (hv1 : SlF 2 w h1 v1 cs n) (hv2 : SlF 2 w h2 v2 ds m) :
    Calls Tryd.prog 16 #[v1, v2] w fun e w' => e = .returned (.bool (decide (cs = ds))) ∧ Below w.heap.size w w' := by
  obtain ⟨a, cap, rfl, hl, hn, hcap, hcap2, hc⟩ := hv1
  obtain ⟨a2, cap2, rfl, hl2, hn2, hcap3, hcap4, hc2⟩ := hv2
  have HL := Lib.hid hl
  have HL2 := Lib.hid hl2
  have HC := Lib.hid hc
  have HC2 := Lib.hid hc2
  clear hl hl2 hc hc2
  by_cases hnm : n = m
  · subst hnm
    go_enter Tryd.func16, Tryd.ntmps16
    go_wp2
    go_loopw [5] (fun i wr => ∃ k : Nat, k ≤ n ∧ i = .int .i64 k ∧ Hid (Below w.heap.size w wr) ∧ Hid (∀ j, j < k * 2 → gi cs j = gi ds j)) (fun i _ => n - (intOf i).toNat)
    case atStart => exact ⟨0, Nat.zero_le _, rfl, Below.refl _ _, fun j hj => absurd hj (by omega)⟩
    case round =>
      obtain ⟨k, hk, rfl, hB, hno⟩ := hrel
      by_cases hlt : k < n
      · obtain ⟨b, off, rfl, hbh, hc⟩ := HC.out (by omega)
        obtain ⟨b2, off2, rfl, hbh2, hc2⟩ := HC2.out (by omega)
        obtain ⟨c0, c1⟩ := cel2 hc hlt hB.out (World.block_lt_of_cell? w _ (hc (k * 2) (by omega)))
        obtain ⟨d0, d1⟩ := cel2 hc2 hlt hB.out (World.block_lt_of_cell? w _ (hc2 (k * 2) (by omega)))
        have k0 := cell_regrown c0
        have l0 := cell_regrown d0
        have k1 := cell_regrown c1
        have l1 := cell_regrown d1
        clear hc hc2
        by_cases he : gi cs (k * 2) = gi ds (k * 2) ∧ gi cs (k * 2 + 1) = gi ds (k * 2 + 1)
        · have HE := Lib.hid he
          have HD : Hid ((decide (gi cs (k * 2) = gi ds (k * 2)) && decide (gi cs (k * 2 + 1) = gi ds (k * 2 + 1))) = true) := Lib.hid (by obtain ⟨h0, h1⟩ := he; simp only [decide_eq_true h0, decide_eq_true h1]; rfl)
          clear he
          go_wp2
          refine wp_region_quiet_below (by kernel_rfl) (by kernel_rfl) ?_
          repeat (any_goals (first | go_big_quiet_step (((go_at_call 39; exact Calls.regrown_of (eqSpare_is _ _ _ _ _ HD.out)))) | quiet_step (((go_at_call 39; exact Calls.regrown_of (eqSpare_is _ _ _ _ _ HD.out))))))
          refine wpQuiet_nil ?_
          intro _ hw'
          obtain ⟨⟨dq, osq⟩, hw''⟩ := hw'
          subst hw''
          have bq := below_regrown (wr) dq osq
          revert bq
          generalize Go.Sort.grow (redrawn (wr) dq) osq = wq
          intro bq
          clear c0 d0 k0 l0 c1 d1 k1 l1
          have HB := Lib.hid (hB.out.trans (bq.mono hB.out.size))
          clear bq
          go_wp2
          go_roundw
          case rel => exact ⟨k + 1, by omega, by go_num, HB.out, fun j hj => by
            obtain ⟨h0, h1⟩ := HE.out
            have hj' : j < k * 2 ∨ j = k * 2 ∨ j = k * 2 + 1 := by omega
            rcases hj' with hj | rfl | rfl
            · exact hno.out j hj
            · exact h0
            · exact h1⟩
          case measure => simp [intOf]; omega
        · have HE := Lib.hid he
          have HD : Hid ((decide (gi cs (k * 2) = gi ds (k * 2)) && decide (gi cs (k * 2 + 1) = gi ds (k * 2 + 1))) = false) := Lib.hid (by rw [← Bool.not_eq_true]; simpa [and_assoc] using he)
          clear he
          go_wp2
          refine wp_region_quiet_below (by kernel_rfl) (by kernel_rfl) ?_
          repeat (any_goals (first | go_big_quiet_step (((go_at_call 39; exact Calls.regrown_of (eqSpare_is _ _ _ _ _ HD.out)))) | quiet_step (((go_at_call 39; exact Calls.regrown_of (eqSpare_is _ _ _ _ _ HD.out))))))
          refine wpQuiet_nil ?_
          intro _ hw'
          obtain ⟨⟨dq, osq⟩, hw''⟩ := hw'
          subst hw''
          have bq := below_regrown (wr) dq osq
          revert bq
          generalize Go.Sort.grow (redrawn (wr) dq) osq = wq
          intro bq
          clear c0 d0 k0 l0 c1 d1 k1 l1
          have HB := Lib.hid (hB.out.trans (bq.mono hB.out.size))
          clear bq
          go_wp2
          go_ret
          refine ⟨?_, HB.out⟩
          rw [decide_eq_false (fun e => HE.out (by subst e; exact ⟨rfl, rfl⟩))]
          rfl
      · obtain rfl : n = k := by omega
        go_wp2
        go_ret
        refine ⟨?_, hB.out⟩
        rw [decide_eq_true (ext_gi (HL.out.trans HL2.out.symm) (fun j hj => hno.out j (by rw [HL.out] at hj; exact hj)))]
        rfl
  · go_enter Tryd.func16, Tryd.ntmps16
    go_wp2
    go_ret
    refine ⟨?_, Below.refl _ _⟩
    rw [decide_eq_false (fun e => by subst e; have := HL.out; have := HL2.out; omega)]
    rfl
theorem eqSpareS_is {r : Bool} (v1 v2 : Value) (cs ds : List Int) (n m h1 h2 : Nat) (w : World) (hv1 : SlF 2 w h1 v1 cs n) (hv2 : SlF 2 w h2 v2 ds m) (h : decide (cs = ds) = r) :
    Calls Tryd.prog 16 #[v1, v2] w fun e w' => e = .returned (.bool r) ∧ Below w.heap.size w w' := h ▸ eqSpareS_any v1 v2 cs ds n m h1 h2 w hv1 hv2

theorem markSpareS_any (v : Value) (cs : List Int) (n : Nat) (k : Int) (lo hi : Nat) (w : World) (hv : WrF 2 30 w lo hi v cs n) (h0 : 0 ≤ k) (h1 : k ≤ 1099511627776) :
    Calls Tryd.prog 22 #[v, .int .i64 k] w fun e w' => e = .returned (.int .i64 (k + (n : Int) * 2)) ∧ Out lo hi w w' ∧ WrF 2 30 w' lo hi v (marks k (n * 2)) n := by
  obtain ⟨a, cap, rfl, hl, hn, hcap, hcap2, hc⟩ := hv
  by_cases hn0 : n = 0
  · subst hn0
    go_enter Tryd.func22, Tryd.ntmps22
    go_wp2
    go_loop [1, 5] (fun c i => c = .int .i64 k ∧ i = .int .i64 0) (fun _ _ => 0)
    case atStart => exact ⟨rfl, rfl⟩
    case round =>
      obtain ⟨rfl, rfl⟩ := hrel
      go_wp2
      go_ret
      exact ⟨by simp, Out.refl _ _ _, ⟨a, cap, rfl, marks_len _ _, by omega, by omega, hcap2, fun h => by omega⟩⟩
  · obtain ⟨g, off, cur, rfl, hlo, hhi, hg, hs, hcs⟩ := hc (by omega)
    clear hcs hc hl
    go_enter Tryd.func22, Tryd.ntmps22
    go_wp2
    go_loopw [1, 5] (fun c i wr => ∃ (j : Nat) (cu : Array Value), j ≤ n ∧ i = .int .i64 j ∧ c = .int .i64 (k + (j : Int) * 2) ∧ Hid (Out lo hi w wr) ∧ Hid (Row wr g 30 cu) ∧ off + n * 2 ≤ cu.size ∧
      Hid (∀ t, t < j * 2 → cu[off + t]? = some (.int .i64 (k + (t : Int))))) (fun _ i _ => n - (intOf i).toNat)
    case atStart => exact ⟨0, cur, Nat.zero_le _, rfl, by simp, Out.refl _ _ _, hg, hs, fun t ht => absurd ht (by omega)⟩
    case round =>
      obtain ⟨j, cu, hj, rfl, rfl, hO, HR, hsz, hno⟩ := hrel
      by_cases hlt : j < n
      · have d0 : wr.cell? ⟨g, off + j * 2, none⟩ = some (cu[off + j * 2 + 0]'(by omega)) := by rw [HR.out.cell]; simp
        have f0 := HR.out.frozen (off + j * 2)
        have d1 : wr.cell? ⟨g, off + j * 2 + 1, none⟩ = some (cu[off + j * 2 + 1]'(by omega)) := by rw [HR.out.cell]; simp
        have f1 := HR.out.frozen (off + j * 2 + 1)
        go_wp2
        go_roundw
        case rel => exact ⟨j + 1, _, by omega, by go_num, by simp only [Value.int.injEq, true_and]; omega, ((hO.out.setCell (a := ⟨g, off + j * 2, none⟩) hlo hhi _).setCell (a := ⟨g, off + j * 2 + 1, none⟩) hlo hhi _), ((HR.out.set _ _).set _ _), by simpa using hsz, fun t ht => by
          have := set_off2 (F := fun t => .int .i64 (k + (t : Int))) hno.out (by omega) t ht
          simpa [Int.natCast_add, Int.natCast_mul, Int.add_assoc] using this⟩
        case measure => simp [intOf]; omega
      · obtain rfl : n = j := by omega
        go_wp2
        go_ret
        exact ⟨rfl, hO.out, ⟨_, cap, rfl, marks_len _ _, hn, hcap, hcap2, fun _ => ⟨g, off, cu, rfl, hlo, hhi, HR.out, hsz, fun t ht => by rw [marks_gi ht]; exact hno.out t ht⟩⟩⟩


end Go.Proofs.YthbkimojbbkeiaaDoor
