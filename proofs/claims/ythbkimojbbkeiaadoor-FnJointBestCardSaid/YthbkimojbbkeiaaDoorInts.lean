/- Contracts of the small functions on slices of ints: has a number; copy; equal; mark; held. -/
import Derived.Test.YthbkimojbbkeiaaDoorRow
namespace Go.Proofs.YthbkimojbbkeiaaDoor
open Go.RowKit

def hasB (xs : List Int) (x : Int) : Bool := decide (x ∈ xs)

theorem hasB_no {xs : List Int} {x : Int} {n : Nat} (hl : xs.length = n) (h : ∀ j, j < n → ¬ gi xs j = x) : hasB xs x = false := by
  simp only [hasB, decide_eq_false_iff_not]
  intro hm
  obtain ⟨j, hj, rfl⟩ := List.getElem_of_mem hm
  exact h j (by omega) (gi_eq hj)

theorem hasB_yes {xs : List Int} {x : Int} {n k : Nat} (hl : xs.length = n) (hk : k < n) (h : gi xs k = x) : hasB xs x = true := by
  simp only [hasB, decide_eq_true_eq]
  rw [← h, gi_eq (by omega)]
  exact List.getElem_mem _

theorem eqIntS_any (va vb : Value) (xs ys : List Int) (ha hb : Nat) (w : World) (h1 : Sl w ha va xs) (h2 : Sl w hb vb ys) :
    Calls Tryd.prog 21 #[va, vb] w fun e w' => e = .returned (.bool (decide (xs = ys))) ∧ Q w w' := by
  obtain ⟨a, n, cap, rfl, hl, hn, hcap, hcap2, hc⟩ := h1
  obtain ⟨a2, m, cap2, rfl, hl2, hn2, hcap3, hcap4, hc2⟩ := h2
  have HL := Lib.hid hl
  have HL2 := Lib.hid hl2
  clear hl hl2
  by_cases hnm : n = m
  · subst hnm
    go_enter Tryd.func21, Tryd.ntmps21
    go_wp2
    go_loopw [5] (fun i wr => ∃ k : Nat, k ≤ n ∧ i = .int .i64 k ∧ Q w wr ∧ Hid (∀ j, j < k → gi xs j = gi ys j)) (fun i _ => n - (intOf i).toNat)
    case atStart => exact ⟨0, Nat.zero_le _, rfl, ⟨0, rfl⟩, fun j hj => absurd hj (by omega)⟩
    case round =>
      obtain ⟨k, hk, rfl, ⟨d, rfl⟩, hno⟩ := hrel
      by_cases hlt : k < n
      · obtain ⟨b, off, rfl, hbh, hc⟩ := hc (by omega)
        obtain ⟨b2, off2, rfl, hbh2, hc2⟩ := hc2 (by omega)
        have hcell := hc k hlt
        have hcell2 := hc2 k hlt
        clear hc hc2
        by_cases he : gi xs k = gi ys k
        · have hb : (gi xs k != gi ys k) = false := by simp [he]
          have HE := Lib.hid he
          clear he
          go_wp2
          go_quiet (fail)
          go_wp2
          go_roundw
          case rel => exact ⟨k + 1, by omega, by go_num, (by first | exact ⟨_, rfl⟩ | exact Q.more _ _), fun j hj => by
            by_cases hjk : j = k
            · subst hjk; exact HE.out
            · exact hno.out j (by omega)⟩
          case measure => simp [intOf]; omega
        · have hb : (gi xs k != gi ys k) = true := by simp [he]
          have HE := Lib.hid he
          clear he
          go_wp2
          go_quiet (fail)
          go_wp2
          go_ret
          refine ⟨?_, (by first | exact ⟨_, rfl⟩ | exact Q.more _ _)⟩
          have : decide (xs = ys) = false := by
            simp only [decide_eq_false_iff_not]
            rintro rfl
            exact HE.out rfl
          rw [this]; rfl
      · obtain rfl : n = k := by omega
        go_wp2
        go_ret
        refine ⟨?_, ⟨d, rfl⟩⟩
        have : decide (xs = ys) = true := by
          simp only [decide_eq_true_eq]
          exact ext_gi (by rw [HL.out, HL2.out]) (fun j hj => hno.out j (by rw [HL.out] at hj; exact hj))
        rw [this]; rfl
  · go_enter Tryd.func21, Tryd.ntmps21
    go_wp2
    go_ret
    refine ⟨?_, ⟨0, rfl⟩⟩
    have : decide (xs = ys) = false := by
      simp only [decide_eq_false_iff_not]
      rintro rfl
      exact hnm (HL.out.symm.trans HL2.out)
    rw [this]; rfl

theorem eqIntS_is {r : Bool} (va vb : Value) (xs ys : List Int) (ha hb : Nat) (w : World) (h1 : Sl w ha va xs) (h2 : Sl w hb vb ys) (h : decide (xs = ys) = r) :
    Calls Tryd.prog 21 #[va, vb] w fun e w' => e = .returned (.bool r) ∧ Q w w' := h ▸ eqIntS_any va vb xs ys ha hb w h1 h2

theorem mkInts (w : World) (n : Nat) (h : n ≤ 1048576) :
    (Instr.makeSlice 40 (.int .i64 n) (.int .i64 n)).run Tryd.prog w = .ok (.slice (some ⟨w.heap.size, 0, none⟩) n n) (w.alloc (.cells (Array.replicate n (.int .i64 0)) 3)) := by
  obtain ⟨i, hi, hz, hs, hb⟩ := info_parts infoInt
  have := run_make (P := Tryd.prog) w 40 3 i (.int .i64 0) Tryd.underlying40 hi hz .i64 .i64 n n (by omega) (Int.le_refl _) (by rw [hb]; omega) (by omega)
  rw [this, hs]
  have e : madeCells (Value.int .i64 0).cells n = Array.replicate n (.int .i64 0) := by
    apply Array.toList_inj.1
    rw [show (Value.int .i64 0).cells = #[.int .i64 0] from rfl, toList_madeCells_one]
    simp
  simp only [Int.toNat_natCast, Nat.mul_one, e]

/-- make([]int, 0, c). -/
theorem mkCapI (w : World) (c : Int) (h0 : 0 ≤ c) (h : c ≤ 1048576) :
    (Instr.makeSlice 40 (.int .i64 0) (.int .i64 c)).run Tryd.prog w = .ok (.slice (some ⟨w.heap.size, 0, none⟩) 0 c.toNat) (w.alloc (.cells (Array.replicate c.toNat (.int .i64 0)) 3)) := by
  obtain ⟨i, hi, hz, hs, hb⟩ := info_parts infoInt
  have := run_make (P := Tryd.prog) w 40 3 i (.int .i64 0) Tryd.underlying40 hi hz .i64 .i64 0 c (by omega) h0 (by rw [hb]; omega) (by omega)
  rw [this, hs]
  have e : madeCells (Value.int .i64 0).cells c.toNat = Array.replicate c.toNat (.int .i64 0) := by
    apply Array.toList_inj.1
    rw [show (Value.int .i64 0).cells = #[.int .i64 0] from rfl, toList_madeCells_one]
    simp
  simp only [Int.toNat_zero, Nat.mul_one, e]

theorem markIntS_any (v : Value) (xs : List Int) (k : Int) (lo hi : Nat) (w : World) (hv : Wr w lo hi v xs) (h0 : 0 ≤ k) (h1 : k ≤ 1099511627776) :
    Calls Tryd.prog 23 #[v, .int .i64 k] w fun e w' => e = .returned (.int .i64 (k + (xs.length : Int))) ∧ Out lo hi w w' ∧ Wr w' lo hi v (marks k xs.length) := by
  obtain ⟨a, n, cap, rfl, hl, hn, hcap, hcap2, hc⟩ := hv
  rw [hl]
  by_cases hn0 : n = 0
  · subst hn0
    go_enter Tryd.func23, Tryd.ntmps23
    go_wp2
    go_loop [1, 5] (fun c i => c = .int .i64 k ∧ i = .int .i64 0) (fun _ _ => 0)
    case atStart => exact ⟨rfl, rfl⟩
    case round =>
      obtain ⟨rfl, rfl⟩ := hrel
      go_wp2
      go_ret
      exact ⟨by simp, Out.refl _ _ _, ⟨a, 0, cap, rfl, marks_len _ _, by omega, by omega, hcap2, fun h => by omega⟩⟩
  · obtain ⟨g, off, cur, rfl, hlo, hhi, hg, hs, hcs⟩ := hc (by omega)
    have HCS := Lib.hid hcs
    clear hcs hc
    go_enter Tryd.func23, Tryd.ntmps23
    go_wp2
    go_loopw [1, 5] (fun c i wr => ∃ (j : Nat) (cu : Array Value), j ≤ n ∧ i = .int .i64 j ∧ c = .int .i64 (k + j) ∧ Out lo hi w wr ∧ Row wr g 3 cu ∧ off + n ≤ cu.size ∧
      Hid (∀ t, t < j → cu[off + t]? = some (.int .i64 (k + t)))) (fun _ i _ => n - (intOf i).toNat)
    case atStart => exact ⟨0, cur, Nat.zero_le _, rfl, by simp, Out.refl _ _ _, hg, hs, fun t ht => absurd ht (by omega)⟩
    case round =>
      obtain ⟨j, cu, hj, rfl, rfl, hO, hR, hsz, hno⟩ := hrel
      by_cases hlt : j < n
      · have hcell : wr.cell? ⟨g, off + j, none⟩ = some (cu[off + j]'(by omega)) := by rw [hR.cell]; simp
        have hfz := hR.frozen (off + j)
        have HR := Lib.hid hR
        clear hR
        go_wp2
        go_roundw
        case rel =>
          exact ⟨j + 1, _, by omega, by go_num, by go_num, hO.setCell (a := ⟨g, off + j, none⟩) hlo hhi _, HR.out.set _ _, by simpa using hsz, fun t ht => by
            by_cases htj : t = j
            · subst htj
              rw [Array.getElem?_setIfInBounds_self_of_lt (by omega)]
            · rw [Array.getElem?_setIfInBounds_ne (by omega)]
              exact hno.out t (by omega)⟩
        case measure => simp [intOf]; omega
      · obtain rfl : n = j := by omega
        go_wp2
        go_ret
        exact ⟨rfl, hO, ⟨_, n, cap, rfl, marks_len _ _, hn, hcap, hcap2, fun _ => ⟨g, off, cu, rfl, hlo, hhi, hR, hsz, fun t ht => by rw [marks_gi ht]; exact hno.out t ht⟩⟩⟩

theorem heldIntS_any (v : Value) (n : Nat) (k : Int) (hi : Nat) (w : World) (hv : Sl w hi v (marks k n)) (h0 : 0 ≤ k) (h1 : k ≤ 1099511627776) :
    Calls Tryd.prog 24 #[v, .int .i64 k] w fun e w' => e = .returned (.int .i64 (k + (n : Int))) ∧ w = w' := by
  obtain ⟨a, n', cap, rfl, hl, hn, hcap, hcap2, hc⟩ := hv
  rw [marks_len] at hl
  subst hl
  go_enter Tryd.func24, Tryd.ntmps24
  go_wp2
  go_loop [1, 5] (fun c i => ∃ j : Nat, j ≤ n ∧ i = .int .i64 j ∧ c = .int .i64 (k + j)) (fun _ i => n - (intOf i).toNat)
  case atStart => exact ⟨0, Nat.zero_le _, rfl, by simp⟩
  case round =>
    obtain ⟨j, hj, rfl, rfl⟩ := hrel
    by_cases hlt : j < n
    · obtain ⟨b, off, rfl, hbh, hc⟩ := hc (by omega)
      have hcell := hc j hlt
      rw [marks_gi hlt] at hcell
      clear hc
      go_wp2
      go_round
      case rel => exact ⟨j + 1, by omega, by go_num, by go_num⟩
      case measure => simp [intOf]; omega
    · obtain rfl : n = j := by omega
      go_wp2
      go_ret
      exact ⟨rfl, rfl⟩

end Go.Proofs.YthbkimojbbkeiaaDoor
