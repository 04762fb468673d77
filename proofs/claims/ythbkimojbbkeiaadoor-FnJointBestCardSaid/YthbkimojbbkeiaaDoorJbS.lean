/- Contracts: JointBest, JointFewest of the reference. -/
import Derived.Test.YthbkimojbbkeiaaDoorJbB
import Derived.Test.YthbkimojbbkeiaaDoorJtLaw
import Derived.Lib.QuietBelow
namespace Go.Proofs.YthbkimojbbkeiaaDoor
open Go.RowKit

theorem set_bit (s i : Nat) : ((s / 2 ^ i) % 2 = 1 ↔ s.testBit i = true) := by
  rw [Nat.testBit_eq_decide_div_mod_eq]
  simp
set_option maxRecDepth 100000 in
set_option maxHeartbeats 2000000 in
theorem l4Set_b (n s : Nat) (w : World) (hn : n ≤ 10) (hs : s < 1024) :
    Calls Tryd.prog 43 #[.int .i64 (n : Int), .int .i64 (s : Int)] w fun e w' => ∃ v', e = .returned v' ∧ Hid (OwI w' w.heap.size v' (bitsL s n)) ∧ Hid (Below w.heap.size w w') := by
  have BX := Lib.hid ((Below.refl w.heap.size w).alloc (Nat.le_refl _) (.cells #[] 3))
  have OW := Lib.hid (OwI.empty w w.heap.size (Nat.le_refl _))
  have E0 : Hid (s / 2 ^ 0 = s) := Lib.hid (by simp)
  go_enter Tryd.func43, Tryd.ntmps43
  go_wp2
  go_loopw [1, 5, 6] (fun t o i wr => ∃ k : Nat, k ≤ n ∧ i = .int .i64 k ∧ t = .int .i64 ((s / 2 ^ k : Nat) : Int) ∧ Hid (OwI wr w.heap.size o (bitsL s k)) ∧ Hid (Below w.heap.size w wr)) (fun _ _ i _ => n - (intOf i).toNat)
  case atStart => exact ⟨0, Nat.zero_le _, rfl, by rw [E0.out], OW, BX⟩
  case round =>
    clear OW BX E0
    obtain ⟨k, hk, rfl, rfl, hO, hB⟩ := hrel
    by_cases hlt : k < n
    · have hb := set_bit s k
      have hle : s / 2 ^ k ≤ 1024 := Nat.le_trans (Nat.div_le_self _ _) (by omega)
      have hnx : Hid (s / 2 ^ (k + 1) = s / 2 ^ k / 2) := Lib.hid (by rw [Nat.pow_succ, Nat.div_div_eq_div_mul])
      have hlen : (bitsL s k).length ≤ 1048576 := by have := bitsL_len (s := s) (n := k); omega
      have hz := hB.out.size
      have HB := Lib.hid hb
      clear hb
      revert hnx
      revert HB
      revert hle
      generalize s / 2 ^ k = t
      intro hle HB hnx
      have hmd : (t : Int).tmod 2 = ((t % 2 : Nat) : Int) := by rw [Int.tmod_eq_emod_of_nonneg (by omega)]; rfl
      have hmd2 : (t : Int) % 2 = ((t % 2 : Nat) : Int) := rfl
      have hdv : (t : Int).tdiv 2 = ((t / 2 : Nat) : Int) := by rw [Int.tdiv_eq_ediv_of_nonneg (by omega)]; rfl
      have hdv2 : (t : Int) / 2 = ((t / 2 : Nat) : Int) := rfl
      have hd2 : t / 2 ≤ 1024 := by omega
      have hm2 : t % 2 < 2 := Nat.mod_lt _ (by omega)
      revert hd2
      revert hdv2
      revert hdv
      revert hnx
      generalize t / 2 = u
      intro hnx hdv hdv2 hd2
      revert hm2
      revert hmd2
      revert hmd
      revert HB
      generalize t % 2 = b
      intro HB hmd hmd2 hm2
      by_cases h1 : b = 1
      · have HN : Hid (bitsL s (k + 1) = bitsL s k ++ [(k : Int)]) := Lib.hid (by rw [bitsL, if_pos (HB.out.1 h1)])
        subst h1
        go_wp2_with (at_builtin; refine wpList_push hO.out (by rfl) (by rfl) (by rfl) (by rfl) hlen hz ?_; intro v5 w5 ow5 b5; have OW5 := Lib.hid ow5; have B5 := Lib.hid b5; clear ow5 b5)
        go_roundw
        case rel => exact ⟨k + 1, by omega, by go_num, by rw [hnx.out], by rw [HN.out]; exact OW5, Lib.hid (hB.out.trans B5.out)⟩
        case measure => simp [intOf]; omega
      · have hbe : ((b : Int) == 1) = false := by rw [beq_eq_false_iff_ne]; omega
        have HN : Hid (bitsL s (k + 1) = bitsL s k) := Lib.hid (by rw [bitsL, if_neg (fun h => h1 (HB.out.2 h))])
        go_wp2
        go_roundw
        case rel => exact ⟨k + 1, by omega, by go_num, by rw [hnx.out], by rw [HN.out]; exact hO, hB⟩
        case measure => simp [intOf]; omega
    · obtain rfl : n = k := by omega
      go_wp2
      go_ret
      exact ⟨_, rfl, hO, hB⟩

/-- A list of indexes below n. -/
def ixL (l : List Int) (n : Nat) : Prop := ∀ i, i < l.length → 0 ≤ gi l i ∧ gi l i < n
theorem ix_bits {s n : Nat} : ixL (bitsL s n) n := fun i hi => by
  obtain ⟨k, hk, e, _⟩ := bitsL_at hi
  omega
set_option maxHeartbeats 1000000 in
theorem l4Joint_b (v u : Value) (kind : Int) (cs l : List Int) (n hi hj : Nat) (w : World) (hv : SlF 2 w hi v cs n) (hu : Sl w hj u l) (hc : spTo cs n) (hl : ixL l n) (h10 : l.length ≤ 10) :
    Calls Tryd.prog 44 #[v, u, .int .i64 kind] w fun e w' => e = .returned (.int .i64 (jtI cs kind l)) ∧ w = w' := by
  obtain ⟨a, cap, rfl, hL, hn, hcap, hcap2, hcl⟩ := hv
  obtain ⟨a2, m, cap2, rfl, hL2, hm, hcap3, hcap4, hcu⟩ := hu
  have HC := Lib.hid hcl
  have HU := Lib.hid hcu
  have HS := Lib.hid hc
  have HI := Lib.hid hl
  have HL := Lib.hid hL2
  clear hL hcl hcu hc hl
  subst hL2
  go_enter Tryd.func44, Tryd.ntmps44
  go_wp2
  go_loop [7, 8] (fun s i => ∃ k : Nat, k ≤ l.length ∧ i = .int .i64 k ∧ s = .int .i64 (jsTo cs l k) ∧ Hid (jkTo cs kind l k)) (fun _ i => l.length - (intOf i).toNat)
  case atStart => exact ⟨0, Nat.zero_le _, rfl, rfl, jkTo_zero _ _ _⟩
  case round =>
    obtain ⟨k, hk, rfl, rfl, hno⟩ := hrel
    by_cases hlt : k < l.length
    · obtain ⟨b2, off2, rfl, hb2, hcu⟩ := HU.out (by omega)
      have d0 := hcu k hlt
      obtain ⟨K, hK⟩ := Int.eq_ofNat_of_zero_le (HI.out k hlt).1
      have hKn : K < n := by have := (HI.out k hlt).2; omega
      have hKn2 : (K : Int) < (n : Int) := by omega
      obtain ⟨b, off, rfl, hbh, hcl⟩ := HC.out (by omega)
      obtain ⟨c0, c1⟩ := cellsS hcl hKn (Below.refl _ _) (World.block_lt_of_cell? w _ (hcl (K * 2) (by omega)))
      have hbd := jsTo_bd HS.out HI.out (Nat.le_of_lt hlt)
      have hsp := (HS.out K hKn).1
      rw [hK] at d0
      have HKT : Hid ((gi l k).toNat = K) := Lib.hid (by rw [hK]; omega)
      have hln : (k : Int) < (l.length : Int) := by omega
      clear hcl hcu hK
      by_cases he : ski cs K = kind
      · have t1 : (ski cs K != kind) = false := by simp [he]
        have HN : Hid (jsTo cs l (k + 1) = jsTo cs l k + smi cs K) := Lib.hid (by rw [jsTo, HKT.out])
        have HJ : Hid (jkTo cs kind l (k + 1)) := Lib.hid (jkTo_succ hno.out (by rw [HKT.out]; exact he))
        clear he
        go_wp2
        go_round
        case rel => exact ⟨k + 1, by omega, by go_num, by rw [HN.out], HJ⟩
        case measure => simp [intOf]; omega
      · have t1 : (ski cs K != kind) = true := by simp [he]
        have HR : Hid (jtI cs kind l = -1) := Lib.hid (jtI_no hlt (by rw [HKT.out]; exact he))
        clear he
        go_wp2
        go_ret
        exact ⟨by rw [HR.out]; rfl, rfl⟩
    · obtain rfl : k = l.length := by omega
      have HR := Lib.hid (jtI_yes hno.out)
      go_wp2
      go_ret
      exact ⟨by rw [HR.out]; rfl, rfl⟩
theorem l4Joint_is {J : Int} (v u : Value) (kind : Int) (cs l : List Int) (n hi hj : Nat) (w : World) (hv : SlF 2 w hi v cs n) (hu : Sl w hj u l) (hc : spTo cs n) (hl : ixL l n) (h10 : l.length ≤ 10) (h : jtI cs kind l = J) :
    Calls Tryd.prog 44 #[v, u, .int .i64 kind] w fun e w' => e = .returned (.int .i64 J) ∧ w = w' := h ▸ l4Joint_b v u kind cs l n hi hj w hv hu hc hl h10

set_option maxHeartbeats 1000000 in
theorem l4Ahead_b (v u1 u2 : Value) (kind : Int) (cs a b : List Int) (n hi h1 h2 : Nat) (w : World) (hv : SlF 2 w hi v cs n) (hu1 : Sl w h1 u1 a) (hu2 : Sl w h2 u2 b) (hc : spTo cs n) (ha : ixL a n) (hb : ixL b n) (ha10 : a.length ≤ 10) (hb10 : b.length ≤ 10) :
    Calls Tryd.prog 45 #[v, u1, u2, .int .i64 kind] w fun e w' => e = .returned (.bool (ahd cs kind a b)) ∧ Below w.heap.size w w' := by
  have V := Lib.hid hv
  have U1 := Lib.hid hu1
  have U2 := Lib.hid hu2
  have HC := Lib.hid hc
  have HA := Lib.hid ha
  have HB := Lib.hid hb
  obtain ⟨a0, cap0, rfl, -⟩ := hv
  obtain ⟨a1, n1, cap1, rfl, hl1, hm1, hcp1, hcq1, hc1⟩ := hu1
  obtain ⟨a2, n2, cap2, rfl, hl2, hm2, hcp2, hcq2, hc2⟩ := hu2
  have HC1 := Lib.hid hc1
  have HC2 := Lib.hid hc2
  have HL1 := Lib.hid hl1
  have HL2 := Lib.hid hl2
  clear hc ha hb hc1 hc2 hl1 hl2
  by_cases hln : n1 = n2
  · subst hln
    obtain ⟨x, hx⟩ : ∃ x, jtI cs kind a = x := ⟨_, rfl⟩
    obtain ⟨y, hy⟩ : ∃ y, jtI cs kind b = y := ⟨_, rfl⟩
    have HX := Lib.hid hx
    have HY := Lib.hid hy
    clear hx hy
    by_cases hxy : x = y
    · have HR : Hid (ahd cs kind a b = decide (lexP a b)) := Lib.hid (by unfold ahd; rw [if_pos (HL1.out.trans HL2.out.symm), HX.out, HY.out, if_pos hxy])
      have t1 : (x != y) = false := by simp [hxy]
      clear hxy
      go_enter Tryd.func45, Tryd.ntmps45
      go_wp2_with fail
      refine (l4Joint_is _ _ kind cs a n _ _ _ V.out U1.out HC.out HA.out ha10 HX.out).mono ?_
      rintro e _ ⟨rfl, rfl⟩
      go_wp2_with fail
      refine (l4Joint_is _ _ kind cs b n _ _ _ V.out U2.out HC.out HB.out hb10 HY.out).mono ?_
      rintro e _ ⟨rfl, rfl⟩
      go_wp2
      go_loopw [11] (fun i wr => ∃ k : Nat, k ≤ n1 ∧ i = .int .i64 k ∧ Hid (Below w.heap.size w wr) ∧ Hid (∀ j, j < k → gi a j = gi b j)) (fun i _ => n1 - (intOf i).toNat)
      case atStart => exact ⟨0, Nat.zero_le _, rfl, Below.refl _ _, fun j hj => absurd hj (by omega)⟩
      case round =>
        obtain ⟨k, hk, rfl, hBw, hno⟩ := hrel
        by_cases hlt : k < n1
        · obtain ⟨b1, off1, rfl, hb1, hc1⟩ := HC1.out (by omega)
          obtain ⟨b2, off2, rfl, hb2, hc2⟩ := HC2.out (by omega)
          have c0 := cellB (hc1 k hlt) hBw.out
          have d0 := cellB (hc2 k hlt) hBw.out
          have hkn : (k : Int) < (n1 : Int) := by omega
          have k0 := cell_regrown c0
          have l0 := cell_regrown d0
          clear hc1 hc2
          by_cases he : gi a k = gi b k
          · have t2 : (gi a k != gi b k) = false := by simp [he]
            have HN : Hid (∀ j, j < k + 1 → gi a j = gi b j) := Lib.hid fun j hj => by
              by_cases e : j = k
              · subst e; exact he
              · exact hno.out j (by omega)
            clear he
            go_wp2
            refine wp_region_quiet_below (by kernel_rfl) (by kernel_rfl) ?_
            repeat (any_goals (first | go_big_quiet_step ((fail)) | quiet_step ((fail))))
            refine wpQuiet_nil ?_
            intro _ hw'
            obtain ⟨⟨dq, osq⟩, hw''⟩ := hw'
            subst hw''
            have bq := below_regrown (wr) dq osq
            revert bq
            generalize Go.Sort.grow (redrawn (wr) dq) osq = wq
            intro bq
            clear c0 d0 k0 l0
            go_wp2
            go_roundw
            case rel => exact ⟨k + 1, by omega, by go_num, Lib.hid (nextW hBw.out bq), HN⟩
            case measure => simp [intOf]; omega
          · have t2 : (gi a k != gi b k) = true := by simp [he]
            have HR2 : Hid (ahd cs kind a b = decide (gi a k < gi b k)) := Lib.hid (by rw [HR.out]; exact lexP_at (by rw [HL1.out]; exact hlt) hno.out he)
            clear he
            go_wp2
            refine wp_region_quiet_below (by kernel_rfl) (by kernel_rfl) ?_
            repeat (any_goals (first | go_big_quiet_step ((fail)) | quiet_step ((fail))))
            refine wpQuiet_nil ?_
            intro _ hw'
            obtain ⟨⟨dq, osq⟩, hw''⟩ := hw'
            subst hw''
            have bq := below_regrown (wr) dq osq
            revert bq
            generalize Go.Sort.grow (redrawn (wr) dq) osq = wq
            intro bq
            have c1 := cellB c0 bq
            have d1 := cellB d0 bq
            have B2 := Lib.hid (nextW hBw.out bq)
            clear c0 d0 k0 l0 bq
            have k1 := cell_regrown c1
            have l1 := cell_regrown d1
            go_wp2
            refine wp_region_quiet_below (by kernel_rfl) (by kernel_rfl) ?_
            repeat (any_goals (first | go_big_quiet_step ((fail)) | quiet_step ((fail))))
            refine wpQuiet_nil ?_
            intro _ hw'
            obtain ⟨⟨dq, osq⟩, hw''⟩ := hw'
            subst hw''
            have bq := below_regrown (wq) dq osq
            revert bq
            generalize Go.Sort.grow (redrawn (wq) dq) osq = wq
            intro bq
            clear c1 d1 k1 l1
            go_wp2
            go_ret
            exact ⟨by rw [HR2.out]; rfl, nextW B2.out bq⟩
        · obtain rfl : n1 = k := by omega
          have HR2 : Hid (ahd cs kind a b = false) := Lib.hid (by rw [HR.out]; exact lexP_none fun j hj => hno.out j (by rw [HL1.out] at hj; exact hj))
          go_wp2
          go_ret
          exact ⟨by rw [HR2.out]; rfl, hBw.out⟩
    · have HR : Hid (ahd cs kind a b = decide (x < y)) := Lib.hid (by unfold ahd; rw [if_pos (HL1.out.trans HL2.out.symm), HX.out, HY.out, if_neg hxy])
      have t1 : (x != y) = true := by simp [hxy]
      clear hxy
      go_enter Tryd.func45, Tryd.ntmps45
      go_wp2_with fail
      refine (l4Joint_is _ _ kind cs a n _ _ _ V.out U1.out HC.out HA.out ha10 HX.out).mono ?_
      rintro e _ ⟨rfl, rfl⟩
      go_wp2_with fail
      refine (l4Joint_is _ _ kind cs b n _ _ _ V.out U2.out HC.out HB.out hb10 HY.out).mono ?_
      rintro e _ ⟨rfl, rfl⟩
      go_wp2
      go_ret
      exact ⟨by rw [HR.out]; rfl, Below.refl _ _⟩
  · have HR : Hid (ahd cs kind a b = decide (n1 < n2)) := Lib.hid (by unfold ahd; rw [HL1.out, HL2.out, if_neg hln])
    have t1 : ((n1 : Int) != (n2 : Int)) = true := by rw [bne_iff_ne]; omega
    go_enter Tryd.func45, Tryd.ntmps45
    go_wp2
    go_ret
    exact ⟨by rw [HR.out]; rfl, Below.refl _ _⟩

end Go.Proofs.YthbkimojbbkeiaaDoor
