/- Contracts: the small functions of the laws on Section values and lists of them. -/
import Derived.Test.YtoanefccnbnkmaaFlat
import Derived.Lib.QuietBelow
namespace Go.Proofs.Ytoanefccnbnkmaa
open Go.RowKit

set_option maxHeartbeats 1000000 in
theorem toSection_any (x0 x1 x2 : Int) (w : World) :
    Calls Try.prog 60 #[.agg #[.int .i64 x0, .int .i64 x1, .int .i64 x2]] w fun e w' => e = .returned (.agg #[.int .i64 x0, .int .i64 x1, .int .i64 x2]) ∧ Below w.heap.size w w' := by
  go_enter Try.func60, Try.ntmps60
  go_wp2
  refine bodyPost_ret (v := .agg #[.int .i64 x0, .int .i64 x1, .int .i64 x2]) (by simp [results, Try.results60, go_sem]) rfl ⟨rfl, ?_⟩
  exact (((Below.refl _ w).alloc (Nat.le_refl _) _).alloc (by simp) _).alloc (by simp; omega) _

theorem eqSection_any (x0 x1 x2 y0 y1 y2 : Int) (w : World) :
    Calls Try.prog 63 #[.agg #[.int .i64 x0, .int .i64 x1, .int .i64 x2], .agg #[.int .i64 y0, .int .i64 y1, .int .i64 y2]] w fun e w' => e = .returned (.bool (decide (x0 = y0) && decide (x1 = y1) && decide (x2 = y2))) ∧ Below w.heap.size w w' := by
  have b0 := Lib.hid (((Below.refl w.heap.size w).alloc (Nat.le_refl _) (.cells #[.int .i64 x0, .int .i64 x1, .int .i64 x2] 76)).alloc (by simp) (.cells #[.int .i64 y0, .int .i64 y1, .int .i64 y2] 76))
  by_cases h0 : x0 = y0
  · have e0 : (x0 != y0) = false := by simp [h0]
    have H0 := Lib.hid h0
    clear h0
    by_cases h1 : x1 = y1
    · have e1 : (x1 != y1) = false := by simp [h1]
      have H1 := Lib.hid h1
      clear h1
      by_cases h2 : x2 = y2
      · have e2 : (x2 != y2) = false := by simp [h2]
        have H2 := Lib.hid h2
        clear h2
        go_enter Try.func63, Try.ntmps63
        go_wp2
        go_ret
        exact ⟨by rw [decide_eq_true H0.out, decide_eq_true H1.out, decide_eq_true H2.out]; rfl, b0.out⟩
      · have e2 : (x2 != y2) = true := by simp [h2]
        have H2 := Lib.hid h2
        clear h2
        go_enter Try.func63, Try.ntmps63
        go_wp2
        go_ret
        exact ⟨by rw [decide_eq_false H2.out]; simp, b0.out⟩
    · have e1 : (x1 != y1) = true := by simp [h1]
      have H1 := Lib.hid h1
      clear h1
      go_enter Try.func63, Try.ntmps63
      go_wp2
      go_ret
      exact ⟨by rw [decide_eq_false H1.out]; simp, b0.out⟩
  · have e0 : (x0 != y0) = true := by simp [h0]
    have H0 := Lib.hid h0
    clear h0
    go_enter Try.func63, Try.ntmps63
    go_wp2
    go_ret
    exact ⟨by rw [decide_eq_false H0.out]; simp, b0.out⟩

theorem infoSection : (Try.prog.info? 76).map (fun i => (i.zero, i.size, i.bytes)) = some (some (.agg #[.int .i64 0, .int .i64 0, .int .i64 0]), 3, 24) := by kernel_rfl
theorem mkSection (n : Nat) (h : n ≤ 1048576) : ∃ cur : Array Value, cur.size = n * 3 ∧ ∀ w : World,
    (Instr.makeSlice 29 (.int .i64 n) (.int .i64 n)).run Try.prog w = .ok (.slice (some ⟨w.heap.size, 0, none⟩) n n) (w.alloc (.cells cur 76)) := by
  refine ⟨madeCells (Value.agg #[.int .i64 0, .int .i64 0, .int .i64 0]).cells (n * 3), size_madeCells _ _, fun w => ?_⟩
  obtain ⟨i, hi, hz, hs, hb⟩ := info_parts infoSection
  have := run_make (P := Try.prog) w 29 76 i (.agg #[.int .i64 0, .int .i64 0, .int .i64 0]) Try.underlying29 hi hz .i64 .i64 n n (by omega) (Int.le_refl _) (by rw [hb]; omega) (by omega)
  simpa [hs] using this

set_option maxHeartbeats 1000000 in
theorem toSectionS_any (v : Value) (cs : List Int) (n hi : Nat) (w : World) (hv : SlF 3 w hi v cs n) :
    Calls Try.prog 19 #[v] w fun e w' => ∃ v', e = .returned v' ∧ Below w.heap.size w w' ∧ WrF 3 76 w' w.heap.size w'.heap.size v' cs n := by
  obtain ⟨a, cap, rfl, hl, hn, hcap, hcap2, hc⟩ := hv
  have HL := Lib.hid hl
  have HC := Lib.hid hc
  obtain ⟨cur, hcur, hmk⟩ := mkSection n hn
  have hcur2 : n * 3 ≤ cur.size := Nat.le_of_eq hcur.symm
  clear hl hc hcur
  go_enter Try.func19, Try.ntmps19
  go_wp2
  clear hmk
  go_loopw [4] (fun i wr => ∃ (k : Nat) (cu : Array Value), k ≤ n ∧ i = .int .i64 k ∧ Hid (Below w.heap.size w wr) ∧ Hid (Row wr w.heap.size 76 cu) ∧ n * 3 ≤ cu.size ∧ Hid (∀ t, t < k * 3 → cu[t]? = some (.int .i64 (gi cs t)))) (fun i _ => n - (intOf i).toNat)
  case atStart => exact ⟨0, cur, Nat.zero_le _, rfl, (Below.refl _ w).alloc (Nat.le_refl _) _, Row.new _ _ _, hcur2, fun t ht => absurd ht (by omega)⟩
  case round =>
    obtain ⟨k, cu, hk, rfl, hB, hR, hsz, hno⟩ := hrel
    by_cases hlt : k < n
    · obtain ⟨b, off, rfl, hbh, hc⟩ := HC.out (by omega)
      obtain ⟨c0, c1, c2⟩ := cel3 hc hlt hB.out (World.block_lt_of_cell? w _ (hc (k * 3) (by omega)))
      clear hc
      go_wp2_with fail
      refine (toSection_any _ _ _ _).mono ?_
      rintro e w2 ⟨rfl, b2⟩
      have hR2 := hR.out.old b2
      have hB2 := Lib.hid (hB.out.trans (b2.mono hB.out.size))
      have d0 : w2.cell? ⟨w.heap.size, k * 3, none⟩ = some (cu[k * 3 + 0]'(by omega)) := by rw [hR2.cell]; simp
      have f0 := hR2.frozen (k * 3)
      have d1 : w2.cell? ⟨w.heap.size, k * 3 + 1, none⟩ = some (cu[k * 3 + 1]'(by omega)) := by rw [hR2.cell]; simp
      have f1 := hR2.frozen (k * 3 + 1)
      have d2 : w2.cell? ⟨w.heap.size, k * 3 + 2, none⟩ = some (cu[k * 3 + 2]'(by omega)) := by rw [hR2.cell]; simp
      have f2 := hR2.frozen (k * 3 + 2)
      have HR2 := Lib.hid hR2
      clear hR2 b2
      go_wp2
      go_roundw
      case rel => exact ⟨k + 1, _, by omega, by go_num, (((hB2.out.setCell (p := ⟨w.heap.size, k * 3, none⟩) (Nat.le_refl _) _).setCell (p := ⟨w.heap.size, k * 3 + 1, none⟩) (Nat.le_refl _) _).setCell (p := ⟨w.heap.size, k * 3 + 2, none⟩) (Nat.le_refl _) _), (((HR2.out.set _ _).set _ _).set _ _), by simpa using hsz, set_run3 (F := fun t => .int .i64 (gi cs t)) hno.out (by omega)⟩
      case measure => simp [intOf]; omega
    · obtain rfl : n = k := by omega
      go_wp2
      go_ret
      exact ⟨_, rfl, hB.out, ⟨_, n, rfl, HL.out, hn, Nat.le_refl _, by omega, fun _ => ⟨w.heap.size, 0, cu, rfl, Nat.le_refl _, hR.out.lt, hR.out, by omega, fun t ht => by simpa using hno.out t ht⟩⟩⟩

theorem szSectionS_ok (n : Nat) (a : Option Addr) (cap : Nat) (w : World) (l : Int) (h1 : l ≤ 1048576) (h : (n : Int) ≤ l) :
    Calls Try.prog 17 #[.slice a n cap, .int .i64 l] w fun e w' => e = .returned (.int .i64 (l - n)) ∧ w = w' := by
  have hd : decide (l - (n : Int) < 0) = false := decide_eq_false (by omega)
  have hd2 : decide (l < (n : Int)) = false := decide_eq_false (by omega)
  have hd3 : (0 : Int) ≤ l - n := by omega
  go_enter Try.func17, Try.ntmps17
  go_wp2
  go_ret
  exact ⟨rfl, rfl⟩
theorem szSectionS_no (n : Nat) (a : Option Addr) (cap : Nat) (w : World) (hn : n ≤ cap) (hc : cap ≤ 9223372036854775807) (l : Int) (h0 : 0 ≤ l) (h1 : l ≤ 1048576) (h : l < (n : Int)) :
    Calls Try.prog 17 #[.slice a n cap, .int .i64 l] w fun e w' => e = .returned (.int .i64 (-1)) ∧ w = w' := by
  have hd : decide (l - (n : Int) < 0) = true := decide_eq_true (by omega)
  have hd2 : decide (l < (n : Int)) = true := decide_eq_true (by omega)
  have hd3 : l - (n : Int) < 0 := by omega
  have hd4 : (-9223372036854775808 : Int) ≤ l - n := by omega
  go_enter Try.func17, Try.ntmps17
  go_wp2
  go_ret
  exact ⟨rfl, rfl⟩

theorem eqSection_is {r : Bool} (x0 x1 x2 y0 y1 y2 : Int) (w : World) (h : (decide (x0 = y0) && decide (x1 = y1) && decide (x2 = y2)) = r) :
    Calls Try.prog 63 #[.agg #[.int .i64 x0, .int .i64 x1, .int .i64 x2], .agg #[.int .i64 y0, .int .i64 y1, .int .i64 y2]] w fun e w' => e = .returned (.bool r) ∧ Below w.heap.size w w' := h ▸ eqSection_any x0 x1 x2 y0 y1 y2 w
set_option maxHeartbeats 1000000 in
theorem eqSectionS_any (v1 v2 : Value) (cs ds : List Int) (n m h1 h2 : Nat) (w : World) (hv1 : SlF 3 w h1 v1 cs n) (hv2 : SlF 3 w h2 v2 ds m) :
    Calls Try.prog 23 #[v1, v2] w fun e w' => e = .returned (.bool (decide (cs = ds))) ∧ Below w.heap.size w w' := by
  obtain ⟨a, cap, rfl, hl, hn, hcap, hcap2, hc⟩ := hv1
  obtain ⟨a2, cap2, rfl, hl2, hn2, hcap3, hcap4, hc2⟩ := hv2
  have HL := Lib.hid hl
  have HL2 := Lib.hid hl2
  have HC := Lib.hid hc
  have HC2 := Lib.hid hc2
  clear hl hl2 hc hc2
  by_cases hnm : n = m
  · subst hnm
    go_enter Try.func23, Try.ntmps23
    go_wp2
    go_loopw [5] (fun i wr => ∃ k : Nat, k ≤ n ∧ i = .int .i64 k ∧ Hid (Below w.heap.size w wr) ∧ Hid (∀ j, j < k * 3 → gi cs j = gi ds j)) (fun i _ => n - (intOf i).toNat)
    case atStart => exact ⟨0, Nat.zero_le _, rfl, Below.refl _ _, fun j hj => absurd hj (by omega)⟩
    case round =>
      obtain ⟨k, hk, rfl, hB, hno⟩ := hrel
      by_cases hlt : k < n
      · obtain ⟨b, off, rfl, hbh, hc⟩ := HC.out (by omega)
        obtain ⟨b2, off2, rfl, hbh2, hc2⟩ := HC2.out (by omega)
        obtain ⟨c0, c1, c2⟩ := cel3 hc hlt hB.out (World.block_lt_of_cell? w _ (hc (k * 3) (by omega)))
        obtain ⟨d0, d1, d2⟩ := cel3 hc2 hlt hB.out (World.block_lt_of_cell? w _ (hc2 (k * 3) (by omega)))
        have k0 := cell_regrown c0
        have l0 := cell_regrown d0
        have k1 := cell_regrown c1
        have l1 := cell_regrown d1
        have k2 := cell_regrown c2
        have l2 := cell_regrown d2
        clear hc hc2
        by_cases he : gi cs (k * 3) = gi ds (k * 3) ∧ gi cs (k * 3 + 1) = gi ds (k * 3 + 1) ∧ gi cs (k * 3 + 2) = gi ds (k * 3 + 2)
        · have HE := Lib.hid he
          have HD : Hid ((decide (gi cs (k * 3) = gi ds (k * 3)) && decide (gi cs (k * 3 + 1) = gi ds (k * 3 + 1)) && decide (gi cs (k * 3 + 2) = gi ds (k * 3 + 2))) = true) := Lib.hid (by obtain ⟨h0, h1, h2⟩ := he; simp only [decide_eq_true h0, decide_eq_true h1, decide_eq_true h2]; rfl)
          clear he
          go_wp2
          refine wp_region_quiet_below (by kernel_rfl) (by kernel_rfl) ?_
          repeat (any_goals (first | go_big_quiet_step (((go_at_call 63; exact Calls.regrown_of (eqSection_is _ _ _ _ _ _ _ HD.out)))) | quiet_step (((go_at_call 63; exact Calls.regrown_of (eqSection_is _ _ _ _ _ _ _ HD.out))))))
          refine wpQuiet_nil ?_
          intro _ hw'
          obtain ⟨⟨dq, osq⟩, hw''⟩ := hw'
          subst hw''
          have bq := below_regrown (wr) dq osq
          revert bq
          generalize Go.Sort.grow (redrawn (wr) dq) osq = wq
          intro bq
          clear c0 d0 k0 l0 c1 d1 k1 l1 c2 d2 k2 l2
          have HB := Lib.hid (hB.out.trans (bq.mono hB.out.size))
          clear bq
          go_wp2
          go_roundw
          case rel => exact ⟨k + 1, by omega, by go_num, HB.out, fun j hj => by
            obtain ⟨h0, h1, h2⟩ := HE.out
            have hj' : j < k * 3 ∨ j = k * 3 ∨ j = k * 3 + 1 ∨ j = k * 3 + 2 := by omega
            rcases hj' with hj | rfl | rfl | rfl
            · exact hno.out j hj
            · exact h0
            · exact h1
            · exact h2⟩
          case measure => simp [intOf]; omega
        · have HE := Lib.hid he
          have HD : Hid ((decide (gi cs (k * 3) = gi ds (k * 3)) && decide (gi cs (k * 3 + 1) = gi ds (k * 3 + 1)) && decide (gi cs (k * 3 + 2) = gi ds (k * 3 + 2))) = false) := Lib.hid (by rw [← Bool.not_eq_true]; simpa [and_assoc] using he)
          clear he
          go_wp2
          refine wp_region_quiet_below (by kernel_rfl) (by kernel_rfl) ?_
          repeat (any_goals (first | go_big_quiet_step (((go_at_call 63; exact Calls.regrown_of (eqSection_is _ _ _ _ _ _ _ HD.out)))) | quiet_step (((go_at_call 63; exact Calls.regrown_of (eqSection_is _ _ _ _ _ _ _ HD.out))))))
          refine wpQuiet_nil ?_
          intro _ hw'
          obtain ⟨⟨dq, osq⟩, hw''⟩ := hw'
          subst hw''
          have bq := below_regrown (wr) dq osq
          revert bq
          generalize Go.Sort.grow (redrawn (wr) dq) osq = wq
          intro bq
          clear c0 d0 k0 l0 c1 d1 k1 l1 c2 d2 k2 l2
          have HB := Lib.hid (hB.out.trans (bq.mono hB.out.size))
          clear bq
          go_wp2
          go_ret
          refine ⟨?_, HB.out⟩
          rw [decide_eq_false (fun e => HE.out (by subst e; exact ⟨rfl, rfl, rfl⟩))]
          rfl
      · obtain rfl : n = k := by omega
        go_wp2
        go_ret
        refine ⟨?_, hB.out⟩
        rw [decide_eq_true (ext_gi (HL.out.trans HL2.out.symm) (fun j hj => hno.out j (by rw [HL.out] at hj; exact hj)))]
        rfl
  · go_enter Try.func23, Try.ntmps23
    go_wp2
    go_ret
    refine ⟨?_, Below.refl _ _⟩
    rw [decide_eq_false (fun e => by subst e; have := HL.out; have := HL2.out; omega)]
    rfl
theorem eqSectionS_is {r : Bool} (v1 v2 : Value) (cs ds : List Int) (n m h1 h2 : Nat) (w : World) (hv1 : SlF 3 w h1 v1 cs n) (hv2 : SlF 3 w h2 v2 ds m) (h : decide (cs = ds) = r) :
    Calls Try.prog 23 #[v1, v2] w fun e w' => e = .returned (.bool r) ∧ Below w.heap.size w w' := h ▸ eqSectionS_any v1 v2 cs ds n m h1 h2 w hv1 hv2

theorem markSectionS_any (v : Value) (cs : List Int) (n : Nat) (k : Int) (lo hi : Nat) (w : World) (hv : WrF 3 76 w lo hi v cs n) (h0 : 0 ≤ k) (h1 : k ≤ 1099511627776) :
    Calls Try.prog 24 #[v, .int .i64 k] w fun e w' => e = .returned (.int .i64 (k + (n : Int) * 3)) ∧ Out lo hi w w' ∧ WrF 3 76 w' lo hi v (marks k (n * 3)) n := by
  obtain ⟨a, cap, rfl, hl, hn, hcap, hcap2, hc⟩ := hv
  by_cases hn0 : n = 0
  · subst hn0
    go_enter Try.func24, Try.ntmps24
    go_wp2
    go_loop [1, 5] (fun c i => c = .int .i64 k ∧ i = .int .i64 0) (fun _ _ => 0)
    case atStart => exact ⟨rfl, rfl⟩
    case round =>
      obtain ⟨rfl, rfl⟩ := hrel
      go_wp2
      go_ret
      exact ⟨by simp, Out.refl _ _ _, ⟨a, cap, rfl, marks_len _ _, by omega, by omega, hcap2, fun h => by omega⟩⟩
  · obtain ⟨g, off, cur, rfl, hlo, hhi, hg, hs, hcs⟩ := hc (by omega)
    clear hcs hc hl
    go_enter Try.func24, Try.ntmps24
    go_wp2
    go_loopw [1, 5] (fun c i wr => ∃ (j : Nat) (cu : Array Value), j ≤ n ∧ i = .int .i64 j ∧ c = .int .i64 (k + (j : Int) * 3) ∧ Hid (Out lo hi w wr) ∧ Hid (Row wr g 76 cu) ∧ off + n * 3 ≤ cu.size ∧
      Hid (∀ t, t < j * 3 → cu[off + t]? = some (.int .i64 (k + (t : Int))))) (fun _ i _ => n - (intOf i).toNat)
    case atStart => exact ⟨0, cur, Nat.zero_le _, rfl, by simp, Out.refl _ _ _, hg, hs, fun t ht => absurd ht (by omega)⟩
    case round =>
      obtain ⟨j, cu, hj, rfl, rfl, hO, HR, hsz, hno⟩ := hrel
      by_cases hlt : j < n
      · have d0 : wr.cell? ⟨g, off + j * 3, none⟩ = some (cu[off + j * 3 + 0]'(by omega)) := by rw [HR.out.cell]; simp
        have f0 := HR.out.frozen (off + j * 3)
        have d1 : wr.cell? ⟨g, off + j * 3 + 1, none⟩ = some (cu[off + j * 3 + 1]'(by omega)) := by rw [HR.out.cell]; simp
        have f1 := HR.out.frozen (off + j * 3 + 1)
        have d2 : wr.cell? ⟨g, off + j * 3 + 2, none⟩ = some (cu[off + j * 3 + 2]'(by omega)) := by rw [HR.out.cell]; simp
        have f2 := HR.out.frozen (off + j * 3 + 2)
        go_wp2
        go_roundw
        case rel => exact ⟨j + 1, _, by omega, by go_num, by simp only [Value.int.injEq, true_and]; omega, (((hO.out.setCell (a := ⟨g, off + j * 3, none⟩) hlo hhi _).setCell (a := ⟨g, off + j * 3 + 1, none⟩) hlo hhi _).setCell (a := ⟨g, off + j * 3 + 2, none⟩) hlo hhi _), (((HR.out.set _ _).set _ _).set _ _), by simpa using hsz, fun t ht => by
          have := set_off3 (F := fun t => .int .i64 (k + (t : Int))) hno.out (by omega) t ht
          simpa [Int.natCast_add, Int.natCast_mul, Int.add_assoc] using this⟩
        case measure => simp [intOf]; omega
      · obtain rfl : n = j := by omega
        go_wp2
        go_ret
        exact ⟨rfl, hO.out, ⟨_, cap, rfl, marks_len _ _, hn, hcap, hcap2, fun _ => ⟨g, off, cu, rfl, hlo, hhi, HR.out, hsz, fun t ht => by rw [marks_gi ht]; exact hno.out t ht⟩⟩⟩


end Go.Proofs.Ytoanefccnbnkmaa
