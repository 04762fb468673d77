/- Contracts: ratios in lowest terms, of both sides. -/
import Derived.Test.YtoanefccnbnkmaaFind
import Derived.RegionTactic
import Derived.BigQuiet
import Derived.Deep.Cut
namespace Go.Proofs.Ytoanefccnbnkmaa
open Go.RowKit

theorem results_cell1 {P : Program} {fn : Func} {p : Tmp} {ty : TypeId} (h : fn.results = #[.cell p ty]) (tmps : Array Value) (w : World) (g : Nat) (t : TypeId) (cs : Array Value)
    (hp : tmps.getD p undef = .pointer (some ⟨g, 0, none⟩)) (hg : Row w g t cs)
    (hu : ((P.underlying ty).any fun d => match d with | .struct _ | .array _ _ => true | _ => false) = true) (hi : (P.info? ty).map (·.size) = some cs.size) :
    (results fn tmps).run P w = .ok (.agg cs) w := by
  cases hd : P.underlying ty with
  | none => rw [hd] at hu; simp at hu
  | some d =>
    rw [hd] at hu
    exact results_cell_row h tmps w g t cs (0, 0) d hp hg hd (by cases d <;> simp_all) hi
theorem ratio_agg : ((Try.prog.underlying 31).any fun d => match d with | .struct _ | .array _ _ => true | _ => false) = true := by kernel_rfl
theorem ratio_size : (Try.prog.info? 31).map (·.size) = some 2 := by kernel_rfl

theorem set2B {B : Nat} {w w' : World} (h : Below B w w') {g : Nat} (hg : B ≤ g) (u v : Value) : Below B w ((w'.setCell ⟨g, 0, none⟩ u).setCell ⟨g, 1, none⟩ v) := (h.setCell (p := ⟨g, 0, none⟩) hg u).setCell (p := ⟨g, 1, none⟩) hg v

set_option maxHeartbeats 1000000 in
theorem specRatioOf_b (t l : Int) (w : World) (ht : 0 ≤ t ∧ t ≤ 80000000) (hl : 1 ≤ l ∧ l ≤ 80000000) :
    Calls Try.prog 96 #[.int .i64 t, .int .i64 l] w fun e w' => e = .returned (.tuple #[.agg #[.int .i64 (rdT t l), .int .i64 (rdL t l)], .bool true]) ∧ Below w.heap.size w w' := by
  have R0 := Lib.hid (Row.new w #[.int .i64 0, .int .i64 0] 31)
  have B0 := Lib.hid ((Below.refl w.heap.size w).alloc (Nat.le_refl _) (.cells #[.int .i64 0, .int .i64 0] 31))
  obtain ⟨T, hT⟩ : ∃ T, rdT t l = T := ⟨_, rfl⟩
  obtain ⟨L, hL⟩ : ∃ L, rdL t l = L := ⟨_, rfl⟩
  have hb := rd_bd (t := t) (l := l) ht.1 hl.1
  have hg := gd_pos (t := t) (l := l) hl.1
  have d1 : t / gd t l = T := hT
  have d2 : l / gd t l = L := hL
  rw [hT, hL] at hb
  obtain ⟨G, hG⟩ : ∃ G : Nat, Nat.gcd t.toNat l.toNat = G := ⟨_, rfl⟩
  have e1 : gd t l = (G : Int) := by unfold gd; rw [hG]
  rw [e1] at d1 d2 hg
  have d3 : t.tdiv (G : Int) = T := by rw [Int.tdiv_eq_ediv_of_nonneg ht.1]; exact d1
  have d4 : l.tdiv (G : Int) = L := by rw [Int.tdiv_eq_ediv_of_nonneg (by omega)]; exact d2
  obtain ⟨pt, rfl⟩ := Int.eq_ofNat_of_zero_le ht.1
  obtain ⟨pl, rfl⟩ := Int.eq_ofNat_of_zero_le (by omega : (0 : Int) ≤ l)
  simp only [Int.toNat_natCast] at hG
  have hn1 : pt ≤ 80000000 := by omega
  have hn2 : 1 ≤ pl := by omega
  have hn3 : pl ≤ 80000000 := by omega
  have hg1 : 1 ≤ G := by omega
  rw [hT, hL]
  have D := Lib.hid (And.intro d3 d4)
  have HG := Lib.hid hG
  clear hT hL d1 d2 e1 ht hl hg d3 d4 hG
  go_enter Try.func96, Try.ntmps96
  go_wp2
  go_loop [6, 7] (fun x y => ∃ p q : Nat, x = .int .i64 p ∧ y = .int .i64 q ∧ p ≤ 80000000 ∧ q ≤ 80000000 ∧ Hid (Nat.gcd p q = G)) (fun _ y => (intOf y).toNat)
  case atStart => exact ⟨pt, pl, rfl, rfl, hn1, hn3, HG⟩
  case round =>
    obtain ⟨p, q, rfl, rfl, hp, hq, hgg⟩ := hrel
    by_cases h0 : q = 0
    · subst h0
      obtain rfl : G = p := by have := hgg.out; simpa using this.symm
      have k0 : (w.alloc (.cells #[.int .i64 0, .int .i64 0] 31)).cell? ⟨w.heap.size, 0, none⟩ = some (.int .i64 0) := by rw [R0.out.cell]; rfl
      have k1 : (w.alloc (.cells #[.int .i64 0, .int .i64 0] 31)).cell? ⟨w.heap.size, 1, none⟩ = some (.int .i64 0) := by rw [R0.out.cell]; rfl
      have z0 := R0.out.frozen 0
      have z1 := R0.out.frozen 1
      obtain ⟨d3, d4⟩ := D.out
      have w1 : (G : Int) ≠ 0 := by omega
      have w2 : ((G : Int) == 0) = false := by simp; omega
      have w3 : -9223372036854775808 ≤ T := by omega
      have w4 : T ≤ 9223372036854775807 := by omega
      have w5 : -9223372036854775808 ≤ L := by omega
      have w6 : L ≤ 9223372036854775807 := by omega
      clear hgg HG D
      go_wp2
      go_region
      go_wp2
      try simp only [Exit.inBlock, Exit.then]
      refine bodyPost_ret (results_cell2 rfl _ _ w.heap.size _ _ rfl (Row.new w _ _) ratio_agg ratio_size) rfl ?_
      exact ⟨rfl, ((Below.refl _ w).alloc (Nat.le_refl _) _).drew⟩
    · have hm : (p : Int).tmod (q : Int) = ((p % q : Nat) : Int) := rfl
      have hlt : p % q < q := Nat.mod_lt _ (by omega)
      have hgn : Hid (Nat.gcd q (p % q) = G) := Lib.hid (by rw [← hgg.out, Nat.gcd_comm p q, Nat.gcd_rec q p, Nat.gcd_comm])
      have w1 : (q : Int) ≠ 0 := by omega
      have w2 : ((q : Int) == 0) = false := by simp; omega
      obtain ⟨r, hr⟩ : ∃ r, p % q = r := ⟨_, rfl⟩
      rw [hr] at hm hlt hgn
      clear hr hgg
      go_wp2
      go_round
      case rel => exact ⟨q, r, rfl, by go_num, hq, by omega, hgn⟩
      case measure => simp [intOf]; omega

set_option maxHeartbeats 1000000 in
theorem l3Earthed_b (r s f : Int) (w : World) (hr : 0 ≤ r ∧ r ≤ 8000) (hs : 0 ≤ s ∧ s ≤ 8000) (hf : 0 ≤ f ∧ f ≤ 1000) :
    Calls Try.prog 84 #[.int .i64 r, .int .i64 s, .int .i64 f] w fun e w' => e = .returned (.agg #[.int .i64 (eaT r s f), .int .i64 (eaL r s f)]) ∧ Below w.heap.size w w' := by
  have R0 := Lib.hid (Row.new w #[.int .i64 0, .int .i64 0] 31)
  have B0 := Lib.hid ((Below.refl w.heap.size w).alloc (Nat.le_refl _) (.cells #[.int .i64 0, .int .i64 0] 31))
  by_cases e : f + s = 0
  · have HE : Hid (eaT r s f = r ∧ eaL r s f = 1) := Lib.hid (by unfold eaT eaL erT erL; rw [if_pos e, if_pos e]; exact rd_one)
    go_enter Try.func84, Try.ntmps84
    go_wp2
    try simp only [Exit.inBlock, Exit.then]
    refine bodyPost_ret (results_cell1 rfl _ _ w.heap.size _ _ rfl (Row.new w _ _) ratio_agg ratio_size) rfl ?_
    exact ⟨by rw [HE.out.1, HE.out.2], (Below.refl _ w).alloc (Nat.le_refl _) _⟩
  · have hb := er_bd hr hs hf
    have h1 := mul_bd hr.1 hr.2 (b := f + s) (B := 9000) (by omega) (by omega)
    have h2 := mul_bd hf.1 hf.2 hs.1 hs.2
    have e1 : erT r s f = r * (f + s) + f * s := by simp [erT, e]
    have e2 : erL s f = f + s := by simp [erL, e]
    rw [e1, e2] at hb
    have HE : Hid (eaT r s f = rdT (r * (f + s) + f * s) (f + s) ∧ eaL r s f = rdL (r * (f + s) + f * s) (f + s)) := Lib.hid (by unfold eaT eaL; rw [e1, e2]; exact ⟨rfl, rfl⟩)
    obtain ⟨D, hD⟩ : ∃ D, f + s = D := ⟨_, rfl⟩
    rw [hD] at hb h1 HE
    have hD9 : D ≤ 9000 := by omega
    have hD1 : 0 ≤ D := by omega
    have e' : D ≠ 0 := by omega
    obtain ⟨X, hX⟩ : ∃ X, r * D = X := ⟨_, rfl⟩
    obtain ⟨Y, hY⟩ : ∃ Y, f * s = Y := ⟨_, rfl⟩
    rw [hX, hY] at hb HE
    rw [hX] at h1
    rw [hY] at h2
    obtain ⟨x1, x2⟩ := h1
    obtain ⟨y1, y2⟩ := h2
    have z1 : X ≤ 72000000 := by omega
    have z2 : Y ≤ 8000000 := by omega
    obtain ⟨hb1, hb2, hb3, hb4⟩ := hb
    clear e1 e2 e x2 y2
    go_enter Try.func84, Try.ntmps84
    go_wp2_with fail
    refine (specRatioOf_b (X + Y) D _ ⟨hb1, hb2⟩ ⟨hb3, by omega⟩).mono ?_
    rintro e w1 ⟨rfl, b1⟩
    have R1 := Lib.hid (R0.out.old b1)
    have B1 := Lib.hid (nextW B0.out b1)
    clear b1
    rw [← HE.out.1, ← HE.out.2]
    obtain ⟨b2, c0, c1⟩ := box2 w1 (eaT r s f) (eaL r s f) 31
    have R2 := Lib.hid (R1.out.old b2)
    have B2 := Lib.hid (nextW B1.out b2)
    clear b2
    have k0 : (w1.alloc (.cells #[.int .i64 (eaT r s f), .int .i64 (eaL r s f)] 31)).cell? ⟨w.heap.size, 0, none⟩ = some (.int .i64 0) := by rw [R2.out.cell]; rfl
    have k1 : (w1.alloc (.cells #[.int .i64 (eaT r s f), .int .i64 (eaL r s f)] 31)).cell? ⟨w.heap.size, 1, none⟩ = some (.int .i64 0) := by rw [R2.out.cell]; rfl
    have z0 := R2.out.frozen 0
    have z1 := R2.out.frozen 1
    go_wp2
    try simp only [Exit.inBlock, Exit.then]
    refine bodyPost_ret (results_cell1 rfl _ _ w.heap.size _ _ rfl ((R2.out.set 0 _).set 1 _) ratio_agg ratio_size) rfl ?_
    exact ⟨rfl, set2B B2.out (Nat.le_refl _) _ _⟩

set_option maxHeartbeats 1000000 in
theorem reduced_b (t l : Int) (w : World) (ht : 0 ≤ t ∧ t ≤ 80000000) (hl : 1 ≤ l ∧ l ≤ 80000000) :
    Calls Try.prog 97 #[.agg #[.int .i64 t, .int .i64 l]] w fun e w' => e = .returned (.agg #[.int .i64 (rdT t l), .int .i64 (rdL t l)]) ∧ Below w.heap.size w w' := by
  have r0 := Row.new w #[.int .i64 t, .int .i64 l] 31
  have n0 := (Below.refl (w.alloc (.cells #[.int .i64 t, .int .i64 l] 31)).heap.size _).alloc (Nat.le_refl _) (.cells #[.int .i64 0, .int .i64 0] 31)
  have R0 := Lib.hid (r0.old n0)
  have r1 := Row.new (w.alloc (.cells #[.int .i64 t, .int .i64 l] 31)) #[.int .i64 0, .int .i64 0] 31
  rw [World.size_alloc] at r1
  have R1 := Lib.hid r1
  have B0 := Lib.hid (nextW ((Below.refl w.heap.size w).alloc (Nat.le_refl _) (.cells #[.int .i64 t, .int .i64 l] 31)) n0)
  clear r0 n0 r1
  obtain ⟨T, hT⟩ : ∃ T, rdT t l = T := ⟨_, rfl⟩
  obtain ⟨L, hL⟩ : ∃ L, rdL t l = L := ⟨_, rfl⟩
  have hb := rd_bd (t := t) (l := l) ht.1 hl.1
  have hg := gd_pos (t := t) (l := l) hl.1
  have d1 : t / gd t l = T := hT
  have d2 : l / gd t l = L := hL
  rw [hT, hL] at hb
  obtain ⟨G, hG⟩ : ∃ G : Nat, Nat.gcd t.toNat l.toNat = G := ⟨_, rfl⟩
  have e1 : gd t l = (G : Int) := by unfold gd; rw [hG]
  rw [e1] at d1 d2 hg
  have d3 : t.tdiv (G : Int) = T := by rw [Int.tdiv_eq_ediv_of_nonneg ht.1]; exact d1
  have d4 : l.tdiv (G : Int) = L := by rw [Int.tdiv_eq_ediv_of_nonneg (by omega)]; exact d2
  obtain ⟨pt, rfl⟩ := Int.eq_ofNat_of_zero_le ht.1
  obtain ⟨pl, rfl⟩ := Int.eq_ofNat_of_zero_le (by omega : (0 : Int) ≤ l)
  simp only [Int.toNat_natCast] at hG
  have hn1 : pt ≤ 80000000 := by omega
  have hn2 : 1 ≤ pl := by omega
  have hn3 : pl ≤ 80000000 := by omega
  have hg1 : 1 ≤ G := by omega
  rw [hT, hL]
  have D := Lib.hid (And.intro d3 d4)
  have HG := Lib.hid hG
  clear hT hL d1 d2 e1 ht hl hg d3 d4 hG
  go_enter Try.func97, Try.ntmps97
  go_upto_region 1 with (fail)
  revert R0 R1 B0
  generalize ((w.alloc (.cells #[.int .i64 (pt : Int), .int .i64 (pl : Int)] 31)).alloc (.cells #[.int .i64 0, .int .i64 0] 31)) = W
  intro R0 R1 B0
  have k0 : W.cell? ⟨w.heap.size, 0, none⟩ = some (.int .i64 (pt : Int)) := by rw [R0.out.cell]; rfl
  have k1 : W.cell? ⟨w.heap.size, 1, none⟩ = some (.int .i64 (pl : Int)) := by rw [R0.out.cell]; rfl
  go_quiet (fail)
  clear k0 k1
  go_wp2
  go_loopw [3, 4] (fun x y wr => ∃ p q : Nat, x = .int .i64 p ∧ y = .int .i64 q ∧ p ≤ 80000000 ∧ q ≤ 80000000 ∧ Hid (Nat.gcd p q = G) ∧ Hid (Row wr w.heap.size 31 #[.int .i64 (pt : Int), .int .i64 (pl : Int)]) ∧ Hid (Row wr (w.heap.size + 1) 31 #[.int .i64 0, .int .i64 0]) ∧ Hid (Below w.heap.size w wr)) (fun _ y _ => (intOf y).toNat)
  case atStart => exact ⟨pt, pl, rfl, rfl, hn1, hn3, HG, R0, R1, Lib.hid (below_drewN B0.out _)⟩
  case round =>
    clear R0 R1 B0
    obtain ⟨p, q, rfl, rfl, hp, hq, hgg, R0, R1, B0⟩ := hrel
    by_cases h0 : q = 0
    · subst h0
      obtain rfl : G = p := by have := hgg.out; simpa using this.symm
      obtain ⟨d3, d4⟩ := D.out
      have w1 : (G : Int) ≠ 0 := by omega
      have w2 : ((G : Int) == 0) = false := by simp; omega
      have w3 : -9223372036854775808 ≤ T := by omega
      have w4 : T ≤ 9223372036854775807 := by omega
      have w5 : -9223372036854775808 ≤ L := by omega
      have w6 : L ≤ 9223372036854775807 := by omega
      have k0 : wr.cell? ⟨w.heap.size, 0, none⟩ = some (.int .i64 (pt : Int)) := by rw [R0.out.cell]; rfl
      have k1 : wr.cell? ⟨w.heap.size, 1, none⟩ = some (.int .i64 (pl : Int)) := by rw [R0.out.cell]; rfl
      have k2 : wr.cell? ⟨w.heap.size + 1, 0, none⟩ = some (.int .i64 0) := by rw [R1.out.cell]; rfl
      have k3 : wr.cell? ⟨w.heap.size + 1, 1, none⟩ = some (.int .i64 0) := by rw [R1.out.cell]; rfl
      have z0 := R1.out.frozen 0
      have z1 := R1.out.frozen 1
      clear hgg HG D
      go_wp2
      go_region
      go_wp2
      try simp only [Exit.inBlock, Exit.then]
      refine bodyPost_ret (results_cell1 rfl _ _ (w.heap.size + 1) _ _ rfl ((R1.out.set 0 _).set 1 _) ratio_agg ratio_size) rfl ?_
      exact ⟨rfl, (set2B B0.out (by omega) _ _).drew⟩
    · have hm : (p : Int).tmod (q : Int) = ((p % q : Nat) : Int) := rfl
      have hlt : p % q < q := Nat.mod_lt _ (by omega)
      have hgn : Hid (Nat.gcd q (p % q) = G) := Lib.hid (by rw [← hgg.out, Nat.gcd_comm p q, Nat.gcd_rec q p, Nat.gcd_comm])
      have w1 : (q : Int) ≠ 0 := by omega
      have w2 : ((q : Int) == 0) = false := by simp; omega
      obtain ⟨r, hr⟩ : ∃ r, p % q = r := ⟨_, rfl⟩
      rw [hr] at hm hlt hgn
      clear hr hgg
      go_wp2
      go_quiet (fail)
      go_wp2
      go_roundw
      case rel => exact ⟨q, r, rfl, by go_num, hq, by omega, hgn, R0, R1, Lib.hid (below_drewN B0.out _)⟩
      case measure => simp [intOf]; omega

end Go.Proofs.Ytoanefccnbnkmaa
