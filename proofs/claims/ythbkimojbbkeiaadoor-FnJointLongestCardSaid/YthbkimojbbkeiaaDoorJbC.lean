/- Contracts: slices.Compare of lists of ints, cmp.Or of three, the order of joints. -/
import Derived.Test.YthbkimojbbkeiaaDoorJbB
import Derived.Deep.RegionHeld3
namespace Go.Proofs.YthbkimojbbkeiaaDoor
open Go.RowKit

theorem cmpI_neg {a b : Int} : cmpI a b < 0 ↔ a < b := by
  unfold cmpI
  by_cases h : a < b
  · simp [h]
  · by_cases h2 : b < a
    · simp [h, h2]
    · simp [h, h2]
theorem cmpI_zero {a b : Int} : cmpI a b = 0 ↔ a = b := by
  unfold cmpI
  by_cases h : a < b
  · simp [h]; omega
  · by_cases h2 : b < a
    · simp [h, h2]; omega
    · simp [h, h2]; omega

/-- What slices.Compare answers of lists as long. -/
def LexR (a b : List Int) (r : Int) : Prop := a.length = b.length → decide (r < 0) = decide (lexP a b)
theorem sliceCmp_b (v1 v2 : Value) (xs ys : List Int) (h1 h2 : Nat) (w : World) (hv1 : Sl w h1 v1 xs) (hv2 : Sl w h2 v2 ys) :
    Calls Tryd.prog 57 #[v1, v2] w fun e w' => ∃ r : Int, e = .returned (.int .i64 r) ∧ Hid (LexR xs ys r) ∧ w = w' := by
  obtain ⟨a, n, cap, rfl, hl, hn, hcap, hcap2, hc⟩ := hv1
  obtain ⟨a2, n2, cap2, rfl, hl2, hn2, hcap3, hcap4, hc2⟩ := hv2
  have HC := Lib.hid hc
  have HC2 := Lib.hid hc2
  have HL := Lib.hid hl
  have HL2 := Lib.hid hl2
  clear hc hc2 hl hl2
  go_enter Tryd.func57, Tryd.ntmps57
  go_wp2
  go_loop [11] (fun i => ∃ k : Nat, k ≤ n ∧ k ≤ n2 ∧ i = .int .i64 k ∧ Hid (∀ j, j < k → gi xs j = gi ys j)) (fun i => n - (intOf i).toNat)
  case atStart => exact ⟨0, Nat.zero_le _, Nat.zero_le _, rfl, fun j hj => absurd hj (by omega)⟩
  case round =>
    obtain ⟨k, hk, hk2, rfl, hno⟩ := hrel
    by_cases hlt : k < n
    · obtain ⟨b, off, rfl, hbh, hc⟩ := HC.out (by omega)
      have c0 := hc k hlt
      by_cases hlt2 : k < n2
      · obtain ⟨b2, off2, rfl, hbh2, hc2⟩ := HC2.out (by omega)
        have d0 := hc2 k hlt2
        have hge : decide ((n2 : Int) ≤ (k : Int)) = false := decide_eq_false (by omega)
        clear hc hc2
        by_cases he : gi xs k = gi ys k
        · have t1 : (cmpI (gi xs k) (gi ys k) != 0) = false := by rw [cmpI_zero.2 he]; rfl
          have HN : Hid (∀ j, j < k + 1 → gi xs j = gi ys j) := Lib.hid fun j hj => by
            by_cases e : j = k
            · subst e; exact he
            · exact hno.out j (by omega)
          clear he
          go_wp2_with fail
          refine (compare_any _ _ _).mono ?_
          rintro e _ ⟨rfl, rfl⟩
          go_wp2
          go_round
          case rel => exact ⟨k + 1, by omega, by omega, by go_num, HN⟩
          case measure => simp [intOf]; omega
        · have t1 : (cmpI (gi xs k) (gi ys k) != 0) = true := by rw [bne_iff_ne]; exact fun h => he (cmpI_zero.1 h)
          have HR : Hid (LexR xs ys (cmpI (gi xs k) (gi ys k))) := Lib.hid fun _ => by
            rw [lexP_at (i := k) (by rw [HL.out]; exact hlt) hno.out he, decide_eq_decide]
            exact cmpI_neg
          clear he
          go_wp2_with fail
          refine (compare_any _ _ _).mono ?_
          rintro e _ ⟨rfl, rfl⟩
          go_wp2
          go_ret
          exact ⟨_, rfl, HR, rfl⟩
      · have hge : decide ((n2 : Int) ≤ (k : Int)) = true := decide_eq_true (by omega)
        have HR : Hid (LexR xs ys 1) := Lib.hid fun h => by rw [HL.out, HL2.out] at h; omega
        clear hc
        go_wp2
        go_ret
        exact ⟨_, rfl, HR, rfl⟩
    · obtain rfl : n = k := by omega
      by_cases hll : n < n2
      · have t1 : decide ((n : Int) < (n2 : Int)) = true := decide_eq_true (by omega)
        have HR : Hid (LexR xs ys (-1)) := Lib.hid fun h => by rw [HL.out, HL2.out] at h; omega
        go_wp2
        go_ret
        exact ⟨_, rfl, HR, rfl⟩
      · have t1 : decide ((n : Int) < (n2 : Int)) = false := decide_eq_false (by omega)
        have HR : Hid (LexR xs ys 0) := Lib.hid fun h => by
          rw [lexP_none fun j hj => hno.out j (by rw [HL.out] at hj; exact hj)]
          rfl
        go_wp2
        go_ret
        exact ⟨_, rfl, HR, rfl⟩

/-- What cmp.Or of three answers. -/
def orJ (x y z : Int) : Int := if x = 0 then (if y = 0 then z else y) else x
theorem or3_any (x y z : Int) (g : Nat) (w : World) (h0 : w.cell? ⟨g, 0, none⟩ = some (.int .i64 x)) (h1 : w.cell? ⟨g, 1, none⟩ = some (.int .i64 y)) (h2 : w.cell? ⟨g, 2, none⟩ = some (.int .i64 z)) :
    Calls Tryd.prog 35 #[.slice (some ⟨g, 0, none⟩) 3 3] w fun e w' => e = .returned (.int .i64 (orJ x y z)) ∧ w = w' := by
  go_enter Tryd.func35, Tryd.ntmps35
  go_wp2
  go_loop [8] (fun i => (i = .int .i64 0) ∨ (i = .int .i64 1 ∧ x = 0) ∨ (i = .int .i64 2 ∧ x = 0 ∧ y = 0) ∨ (i = .int .i64 3 ∧ x = 0 ∧ y = 0 ∧ z = 0)) (fun i => 3 - (intOf i).toNat)
  case atStart => exact .inl rfl
  case round =>
    rcases hrel with rfl | ⟨rfl, hx⟩ | ⟨rfl, hx, hy⟩ | ⟨rfl, hx, hy, hz⟩
    · by_cases hx : x = 0
      · have t1 : (x != 0) = false := by simp [hx]
        go_wp2
        go_round
        case rel => exact .inr (.inl ⟨by go_num, hx⟩)
        case measure => simp [intOf]
      · have t1 : (x != 0) = true := by simp [hx]
        go_wp2
        go_ret
        exact ⟨by simp [orJ, hx], rfl⟩
    · by_cases hy : y = 0
      · have t1 : (y != 0) = false := by simp [hy]
        go_wp2
        go_round
        case rel => exact .inr (.inr (.inl ⟨by go_num, hx, hy⟩))
        case measure => simp [intOf]
      · have t1 : (y != 0) = true := by simp [hy]
        go_wp2
        go_ret
        exact ⟨by simp [orJ, hy], rfl⟩
    · by_cases hz : z = 0
      · have t1 : (z != 0) = false := by simp [hz]
        go_wp2
        go_round
        case rel => exact .inr (.inr (.inr ⟨by go_num, hx, hy, hz⟩))
        case measure => simp [intOf]
      · have t1 : (z != 0) = true := by simp [hz]
        go_wp2
        go_ret
        exact ⟨by simp [orJ], rfl⟩
    · go_wp2
      go_ret
      exact ⟨by simp [orJ], rfl⟩

/-- A joint comes ahead of another one. -/
def ahJ (s t : Nat) (m m' : Int) : Bool := if pcN s = pcN t then (if m = m' then decide (lexP (bitsL s 10) (bitsL t 10)) else decide (m < m')) else decide (pcN s < pcN t)
theorem ahJ_is {s t : Nat} {m m' r : Int} (h : LexR (bitsL s 10) (bitsL t 10) r) : decide (orJ (cmpI (pcN s : Int) (pcN t : Int)) (cmpI m m') r < 0) = ahJ s t m m' := by
  unfold ahJ orJ
  by_cases h1 : pcN s = pcN t
  · rw [if_pos (cmpI_zero.2 (by omega)), if_pos h1]
    by_cases h2 : m = m'
    · rw [if_pos (cmpI_zero.2 h2), if_pos h2]
      exact h h1
    · rw [if_neg (fun e => h2 (cmpI_zero.1 e)), if_neg h2, decide_eq_decide]
      exact cmpI_neg
  · rw [if_neg (fun e => h1 (by have := cmpI_zero.1 e; omega)), if_neg h1, decide_eq_decide]
    rw [cmpI_neg]
    omega

theorem onesCount_bB (s : Nat) (hs : s < 1024) (w : World) : Calls Tryd.prog 28 #[.int .u64 (s : Int)] w fun e w' => e = .returned (.int .i64 (pcN s : Int)) ∧ Below w.heap.size w w' := sameB (onesCount_b s hs w)
theorem box3 (w : World) (x y z : Int) (t : TypeId) : Below w.heap.size w (w.alloc (.cells #[.int .i64 x, .int .i64 y, .int .i64 z] t)) ∧ (w.alloc (.cells #[.int .i64 x, .int .i64 y, .int .i64 z] t)).cell? ⟨w.heap.size, 0, none⟩ = some (.int .i64 x) ∧ (w.alloc (.cells #[.int .i64 x, .int .i64 y, .int .i64 z] t)).cell? ⟨w.heap.size, 1, none⟩ = some (.int .i64 y) ∧ (w.alloc (.cells #[.int .i64 x, .int .i64 y, .int .i64 z] t)).cell? ⟨w.heap.size, 2, none⟩ = some (.int .i64 z) := by
  have r0 := Row.new w #[.int .i64 x, .int .i64 y, .int .i64 z] t
  exact ⟨(Below.refl _ w).alloc (Nat.le_refl _) _, by rw [r0.cell]; rfl, by rw [r0.cell]; rfl, by rw [r0.cell]; rfl⟩

/-- What the region of the order keeps. -/
structure KpJ (W : World) (g : Nat) (s t : Nat) (m m' : Int) (w' : World) : Prop where
  a0 : w'.cell? ⟨g, 0, none⟩ = some (.int .u64 (s : Int))
  a1 : w'.cell? ⟨g, 1, none⟩ = some (.int .i64 m)
  b0 : w'.cell? ⟨g + 1, 0, none⟩ = some (.int .u64 (t : Int))
  b1 : w'.cell? ⟨g + 1, 1, none⟩ = some (.int .i64 m')
  bl : Below W.heap.size W w'
  tb : Tb w'

theorem keepJ {W wq w1 : World} {a b c d : Addr} {x y z u : Value} (h : wq.cell? a = some x ∧ wq.cell? b = some y ∧ wq.cell? c = some z ∧ wq.cell? d = some u ∧ Below W.heap.size W wq ∧ Tb wq) (hb : Below wq.heap.size wq w1) :
    w1.cell? a = some x ∧ w1.cell? b = some y ∧ w1.cell? c = some z ∧ w1.cell? d = some u ∧ Below W.heap.size W w1 ∧ Tb w1 :=
  ⟨cellB h.1 hb, cellB h.2.1 hb, cellB h.2.2.1 hb, cellB h.2.2.2.1 hb, nextW h.2.2.2.2.1 hb, h.2.2.2.2.2.old hb⟩
theorem keepT {W wq : World} {a b c d : Addr} {x y z u : Value} (h : wq.cell? a = some x ∧ wq.cell? b = some y ∧ wq.cell? c = some z ∧ wq.cell? d = some u ∧ Below W.heap.size W wq ∧ Tb wq) : Tb wq := h.2.2.2.2.2
theorem below3 (w : World) (x y z : Int) : Below w.heap.size w (w.alloc (.cells #[.int .i64 x, .int .i64 y, .int .i64 z] 3)) := (Below.refl _ w).alloc (Nat.le_refl _) _

set_option maxRecDepth 100000 in
set_option maxHeartbeats 4000000 in
theorem joCmp_b (s t : Nat) (m m' : Int) (w : World) (hs : s < 1024) (ht : t < 1024) (hT : Tb w) :
    Calls Tryd.prog 49 #[.agg #[.int .u64 (s : Int), .int .i64 m], .agg #[.int .u64 (t : Int), .int .i64 m']] w fun e w' => ∃ r : Int, e = .returned (.int .i64 r) ∧ Hid (decide (r < 0) = ahJ s t m m') ∧ Hid (Below w.heap.size w w') := by
  have B1 := Lib.hid (((Below.refl w.heap.size w).alloc (Nat.le_refl _) (.cells #[.int .u64 (s : Int), .int .i64 m] 50)).alloc (by simp) (.cells #[.int .u64 (t : Int), .int .i64 m'] 50))
  obtain ⟨bb, x0, x1⟩ := boxJ w s m 50
  obtain ⟨bc, y0, y1⟩ := boxJ (w.alloc (.cells #[.int .u64 (s : Int), .int .i64 m] 50)) t m' 50
  have T1 := Lib.hid (Tb.old (Tb.old hT bb) bc)
  replace x0 := cellB x0 bc
  replace x1 := cellB x1 bc
  rw [World.size_alloc] at y0 y1
  have hl1 : (bitsL s 10).length ≤ 1048576 := by have := bitsL_len (s := s) (n := 10); omega
  have hl2 : (bitsL t 10).length ≤ 1048576 := by have := bitsL_len (s := t) (n := 10); omega
  clear bb bc
  go_enter Tryd.func49, Tryd.ntmps49
  go_upto_region 1 with (fail)
  revert y1
  revert y0
  revert x1
  revert x0
  revert T1
  revert B1
  generalize ((w.alloc (.cells #[.int .u64 (s : Int), .int .i64 m] 50)).alloc (.cells #[.int .u64 (t : Int), .int .i64 m'] 50)) = W
  intro B1 T1 x0 x1 y0 y1
  have S0 := Lib.hid (And.intro x0 (And.intro x1 (And.intro y0 (And.intro y1 (And.intro (below_drewN (Below.refl W.heap.size W) 1) (T1.out.old (below_drewN (Below.refl W.heap.size W) 1)))))))
  go_region_held3 (fun w' => w'.cell? ⟨w.heap.size, 0, none⟩ = some (.int .u64 (s : Int)) ∧ w'.cell? ⟨w.heap.size, 1, none⟩ = some (.int .i64 m) ∧ w'.cell? ⟨w.heap.size + 1, 0, none⟩ = some (.int .u64 (t : Int)) ∧ w'.cell? ⟨w.heap.size + 1, 1, none⟩ = some (.int .i64 m') ∧ Below W.heap.size W w' ∧ Tb w')
    (first | assumption | exact S0.out | exact keepJ (by assumption) (by assumption) | exact keepJ (by assumption) (below3 _ _ _ _))
    (first
      | (go_at_call 28; refine (onesCount_bB _ (by assumption) _).mono ?_; rintro e wA ⟨rfl, bA⟩)
      | (go_at_call 36; refine (compare_b _ _ _).mono ?_; rintro e wA ⟨rfl, bA⟩)
      | (go_at_call 40; with_reducible refine (list_b s m _ hs (keepT (by assumption))).mono ?_; rintro e wL ⟨vL, rfl, oL, bL0⟩; have bL := bL0.out)
      | (go_at_call 40; with_reducible refine (list_b t m' _ ht (keepT (by assumption))).mono ?_; rintro e wM ⟨vM, rfl, oM, bM0⟩; have bM := bM0.out)
      | (go_at_call 57; refine (sliceCmp_b _ _ (bitsL s 10) (bitsL t 10) _ _ _ ((oL.out.wr hl1).sl.old bM) (oM.out.wr hl2).sl).mono ?_; rintro e _ ⟨r, rfl, hr, rfl⟩)
      | (go_at_call 35; refine (or3_any (cmpI (pcN s : Int) (pcN t : Int)) (cmpI m m') r _ _ (box3 _ _ _ _ _).2.1 (box3 _ _ _ _ _).2.2.1 (box3 _ _ _ _ _).2.2.2).mono ?_; rintro e _ ⟨rfl, rfl⟩))
  all_goals
    go_wp2
    go_ret
    exact ⟨_, rfl, Lib.hid (ahJ_is hr.out), Lib.hid (nextW B1.out (show _ ∧ _ ∧ _ ∧ _ ∧ Below W.heap.size W _ ∧ Tb _ from by assumption).2.2.2.2.1)⟩

end Go.Proofs.YthbkimojbbkeiaaDoor
