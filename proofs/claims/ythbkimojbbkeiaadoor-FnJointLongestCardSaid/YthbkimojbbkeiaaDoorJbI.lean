/- Contract: bestJoint of the program. -/
import Derived.Test.YthbkimojbbkeiaaDoorJbC
import Derived.Test.YthbkimojbbkeiaaDoorJbT
import Derived.BigRegion
namespace Go.Proofs.YthbkimojbbkeiaaDoor
open Go.RowKit

theorem results_cellJ {P : Program} {fn : Func} {p u : Tmp} {ty : TypeId} (h : fn.results = #[.cell p ty, .tmp u]) (tmps : Array Value) (w : World) (g : Nat) (t : TypeId) (cs : Array Value)
    (hp : tmps.getD p undef = .pointer (some ⟨g, 0, none⟩)) (hg : Row w g t cs)
    (hu : ((P.underlying ty).any fun d => match d with | .struct _ | .array _ _ => true | _ => false) = true) (hi : (P.info? ty).map (·.size) = some cs.size) :
    (results fn tmps).run P w = .ok (.tuple #[.agg cs, tmps.getD u undef]) w := by
  have hp' : tmps[p]?.getD undef = .pointer (some ⟨g, 0, none⟩) := by simpa using hp
  rw [results_cell_tmp h]
  cases hd : P.underlying ty with
  | none => rw [hd] at hu; simp at hu
  | some d =>
    rw [hd] at hu
    simp [hp', asAddr, run_loadVar_row w g t ty cs (0, 0) d hg hd (by cases d <;> simp_all) hi, Result.andThen]
theorem joint_agg : ((Tryd.prog.underlying 50).any fun d => match d with | .struct _ | .array _ _ => true | _ => false) = true := by kernel_rfl
theorem joint_size : (Tryd.prog.info? 50).map (·.size) = some 2 := by kernel_rfl

theorem bits_ten {s n : Nat} (hs : s < 2 ^ n) (hn : n ≤ 10) : bitsL s 10 = bitsL s n := by
  have key : ∀ d, bitsL s (n + d) = bitsL s n := by
    intro d
    induction d with
    | zero => rfl
    | succ d ih =>
      rw [← Nat.add_assoc, bitsL, if_neg, ih]
      rw [Nat.testBit_lt_two_pow (Nat.lt_of_lt_of_le hs (Nat.pow_le_pow_right (by omega) (by omega)))]
      simp
  have := key (10 - n)
  rwa [show n + (10 - n) = 10 by omega] at this
theorem ah_is {cs : List Int} {kind m m' : Int} {s t n : Nat} (hs : s < 2 ^ n) (ht : t < 2 ^ n) (hn : n ≤ 10) (h1 : jtI cs kind (bitsL s n) = m) (h2 : jtI cs kind (bitsL t n) = m') : ahJ s t m m' = ahd cs kind (bitsL s n) (bitsL t n) := by
  unfold ahJ ahd pcN
  rw [bits_ten hs hn, bits_ten ht hn, h1, h2]
theorem Row.outW {w w' : World} {lo hi g : Nat} {e : TypeId} {cur : Array Value} (h : Row w g e cur) (o : Out lo hi w w') (hd : g < lo ∨ hi ≤ g) : Row w' g e cur := (o.block g h.lt hd).trans h
theorem out_drewN {w w' : World} {lo hi : Nat} (h : Out lo hi w w') (m : Nat) : Out lo hi w (w'.drewN m) := by
  have b := below_drewN (Below.refl w'.heap.size w') m
  exact ⟨b.os.trans h.os, b.tape.trans h.tape, b.output.trans h.output, Nat.le_trans h.size b.size, fun k hk hd => (b.block k (Nat.lt_of_lt_of_le hk h.size)).trans (h.block k hk hd)⟩
theorem bj_fin {w : World} {g k : Nat} {t : TypeId} {x y : Value} (h : Row w g t #[x, y]) (hk : k = 0) (u v : Value) : Row ((w.setCell ⟨g, k, none⟩ u).setCell ⟨g, 1, none⟩ v) g t #[u, v] := by
  subst hk
  exact (h.set 0 u).set 1 v

set_option maxRecDepth 100000 in
set_option maxHeartbeats 4000000 in
theorem bestJoint_b (v : Value) (kind miles : Int) (cs : List Int) (n hi : Nat) (w : World) (hv : SlF 2 w hi v cs n) (hT : Tb w) :
    Calls Tryd.prog 27 #[v, .int .i64 kind, .int .i64 miles] w fun e w' => ∃ bm : Int, e = .returned (.tuple #[.agg #[.int .u64 (bestJ cs n kind miles : Int), .int .i64 bm], .bool (jbB cs n kind miles)]) ∧ Hid (Below w.heap.size w w') := by
  have HV := Lib.hid hv
  have HT := Lib.hid hT
  have BX := Lib.hid ((Below.refl w.heap.size w).alloc (Nat.le_refl _) (.cells #[.int .u64 0, .int .i64 0] 50))
  have RX := Lib.hid (Row.new w #[.int .u64 0, .int .i64 0] 50)
  have V := Lib.hid (hv.old BX.out)
  have T := Lib.hid (hT.old BX.out)
  have hw1 := hT.1
  obtain ⟨a, cap, rfl, hL, hn, hcap, hcap2, hcl⟩ := hv
  have HC := Lib.hid hcl
  clear hL hcl hT
  cases e1 : spB 10 cs n with
  | false =>
    have HR : Hid (bestJ cs n kind miles = 0 ∧ jbB cs n kind miles = false) := Lib.hid (by
      have : bestJ cs n kind miles = 0 := by simp [bestJ, jOk, e1]
      exact ⟨this, by simp [jbB, this]⟩)
    go_enter Tryd.func27, Tryd.ntmps27
    go_wp2
    go_step3
    go_wp2_with fail
    refine (implSparesValid_is _ cs n _ _ V.out e1).mono ?_
    rintro e w1 ⟨rfl, b1⟩
    have B1 := Lib.hid (nextW BX.out b1)
    have R1 := Lib.hid (RX.out.old b1)
    have c0 : w1.cell? ⟨w.heap.size, 0, none⟩ = some (.int .u64 0) := by rw [R1.out.cell]; rfl
    have c1 : w1.cell? ⟨w.heap.size, 1, none⟩ = some (.int .i64 0) := by rw [R1.out.cell]; rfl
    have f0 := R1.out.frozen 0
    have f1 := R1.out.frozen 1
    have fin := bj_fin R1.out (rfl : (0 : Nat) = 0) (.int .u64 0) (.int .i64 0)
    clear b1
    go_wp2_with fail
    rw [Exit.noGoto_ret]
    refine bodyPost_ret (results_cellJ rfl _ _ w.heap.size _ _ rfl fin joint_agg joint_size) rfl ?_
    exact ⟨0, by rw [HR.out.1, HR.out.2]; rfl, Lib.hid ((B1.out.setCell (p := ⟨w.heap.size, 0, none⟩) (Nat.le_refl _) _).setCell (p := ⟨w.heap.size, 1, none⟩) (Nat.le_refl _) _)⟩
  | true =>
    cases e2 : inB miles 1 500 with
    | false =>
      have HR : Hid (bestJ cs n kind miles = 0 ∧ jbB cs n kind miles = false) := Lib.hid (by
        have : bestJ cs n kind miles = 0 := by simp [bestJ, jOk, e2]
        exact ⟨this, by simp [jbB, this]⟩)
      go_enter Tryd.func27, Tryd.ntmps27
      go_wp2
      go_step3
      go_wp2_with fail
      refine (implSparesValid_is _ cs n _ _ V.out e1).mono ?_
      rintro e w1 ⟨rfl, b1⟩
      have B1 := Lib.hid (nextW BX.out b1)
      have R1 := Lib.hid (RX.out.old b1)
      have c0 : w1.cell? ⟨w.heap.size, 0, none⟩ = some (.int .u64 0) := by rw [R1.out.cell]; rfl
      have c1 : w1.cell? ⟨w.heap.size, 1, none⟩ = some (.int .i64 0) := by rw [R1.out.cell]; rfl
      have f0 := R1.out.frozen 0
      have f1 := R1.out.frozen 1
      have fin := bj_fin R1.out (rfl : (0 : Nat) = 0) (.int .u64 0) (.int .i64 0)
      clear b1
      go_wp2_with fail
      refine (within_is _ _ _ _ e2).mono ?_
      rintro e _ ⟨rfl, rfl⟩
      go_wp2_with fail
      rw [Exit.noGoto_ret]
      refine bodyPost_ret (results_cellJ rfl _ _ w.heap.size _ _ rfl fin joint_agg joint_size) rfl ?_
      exact ⟨0, by rw [HR.out.1, HR.out.2]; rfl, Lib.hid ((B1.out.setCell (p := ⟨w.heap.size, 0, none⟩) (Nat.le_refl _) _).setCell (p := ⟨w.heap.size, 1, none⟩) (Nat.le_refl _) _)⟩
    | true =>
      have HJ : Hid (bestJ cs n kind miles = bj cs kind miles n (2 ^ n)) := Lib.hid (by simp [bestJ, jOk, e1, e2])
      have HS := Lib.hid (spB_true.1 e1).2
      have HM := Lib.hid (inB_true.1 e2)
      have hn10 : n ≤ 10 := by have := (spB_true.1 e1).1; omega
      have hp := pow10 hn10
      have hp1 : 1 ≤ 2 ^ n := Nat.two_pow_pos n
      have Z1 : Hid (bj cs kind miles n 1 = 0) := Lib.hid bj_one
      go_enter Tryd.func27, Tryd.ntmps27
      go_wp2
      go_step3
      go_wp2_with fail
      refine (implSparesValid_is _ cs n _ _ V.out e1).mono ?_
      rintro e w1 ⟨rfl, b1⟩
      have B1 := Lib.hid (nextW BX.out b1)
      have R1 := Lib.hid (RX.out.old b1)
      have T1 := Lib.hid (T.out.old b1)
      have z1 : w.heap.size < w1.heap.size := R1.out.lt
      clear b1 BX RX T V
      go_wp2_with fail
      refine (within_is _ _ _ _ e2).mono ?_
      rintro e _ ⟨rfl, rfl⟩
      clear e1 e2
      have BY := Lib.hid (B1.out.alloc B1.out.size (.cells #[.int .u64 0, .int .i64 0] 50))
      have RY := Lib.hid (R1.out.old ((Below.refl _ w1).alloc (Nat.le_refl _) (.cells #[.int .u64 0, .int .i64 0] 50)))
      have TY := Lib.hid (T1.out.old ((Below.refl _ w1).alloc (Nat.le_refl _) (.cells #[.int .u64 0, .int .i64 0] 50)))
      have KY := Lib.hid (Row.new w1 #[.int .u64 0, .int .i64 0] 50)
      go_wp2_with fail
      go_step3
      go_wp2_with fail
      obtain ⟨P, hP⟩ : ∃ P, 2 ^ n = P := ⟨_, rfl⟩
      have HP := Lib.hid hP
      rw [hP] at hp hp1 HJ
      clear hP
      go_loopw [9] (fun sv wr => ∃ (s b : Nat) (bm : Int), 1 ≤ s ∧ s ≤ P ∧ sv = .int .u64 s ∧ Hid (bj cs kind miles n s = b) ∧ Hid (b ≠ 0 → jtI cs kind (bitsL b n) = bm) ∧ Hid (Row wr w.heap.size 50 #[.int .u64 0, .int .i64 0]) ∧ Hid (Row wr w1.heap.size 50 #[.int .u64 (b : Int), .int .i64 bm]) ∧ Hid (Below w.heap.size w wr) ∧ Hid (Tb wr)) (fun s _ => P - (intOf s).toNat)
      case atStart => exact ⟨1, 0, 0, by omega, hp1, rfl, Z1, fun h => absurd rfl h, RY, KY, BY, TY⟩
      case round =>
        clear BY RY TY KY Z1 B1 R1 T1
        obtain ⟨s, b, bm, hs1, hsP, rfl, hb, hbm, hR, hK, hB, hT⟩ := hrel
        have hbP : b = 0 ∨ b < s := by rw [← hb.out]; exact bj_lt
        have hshl : (2 : Int) ^ n = (P : Int) := by rw [← HP.out]; norm_cast
        by_cases hlt : s < P
        · have hlt2 : decide ((s : Int) < (P : Int)) = true := decide_eq_true (by omega)
          have hs10 : s < 1024 := by omega
          have hbits : Hid (bitsL s 10 = bitsL s n) := Lib.hid (bits_ten (by rw [HP.out]; exact hlt) hn10)
          obtain ⟨ba, x0, x1⟩ := boxJ wr s 0 50
          have R2 := Lib.hid (hR.out.old ba)
          have K2 := Lib.hid (hK.out.old ba)
          have B2 := Lib.hid (nextW hB.out ba)
          have T2 := Lib.hid (hT.out.old ba)
          have G2 := Lib.hid (Row.new wr #[.int .u64 (s : Int), .int .i64 0] 50)
          have hzr := hB.out.size
          have hk1 : w1.heap.size < wr.heap.size := hK.out.lt
          clear ba hR hK hB hT
          go_wp2_with fail
          refine (list_b s 0 _ hs10 T2.out).mono ?_
          rintro e w2 ⟨lv, rfl, ol, bl⟩
          clear x0 x1
          replace R2 := Lib.hid (R2.out.old bl.out)
          replace K2 := Lib.hid (K2.out.old bl.out)
          replace B2 := Lib.hid (nextW B2.out bl.out)
          replace T2 := Lib.hid (T2.out.old bl.out)
          replace G2 := Lib.hid (G2.out.old bl.out)
          have ow := ol.out
          rw [hbits.out, World.size_alloc] at ow
          have hl10 : (bitsL s n).length ≤ 10 := Nat.le_trans bits_10 hn10
          have WL := Lib.hid (ow.wr (by omega))
          obtain ⟨la, ln, lc, rfl, hln⟩ := ow.form3
          have hlen : ln ≤ 10 := by rw [← hln.out]; exact hl10
          obtain ⟨g, hg⟩ : ∃ g, wr.heap.size = g := ⟨_, rfl⟩
          rw [hg] at WL G2 hzr hk1
          have HI : Hid (ixL (bitsL s n) n) := Lib.hid ix_bits
          have hg2 : g < w2.heap.size := G2.out.lt
          have OX := Lib.hid (Out.refl g (g + 1) w2)
          clear ol ow bl hl10
          obtain ⟨l, hl⟩ : ∃ l, bitsL s n = l := ⟨_, rfl⟩
          have HLs := Lib.hid hl
          rw [hl] at HI WL hln
          clear hl
          rw [hg]
          go_wp2
          go_loopw [12, 34] (fun _ iv wq => ∃ i : Nat, i ≤ ln ∧ iv = .int .i64 i ∧ Hid (jkTo cs kind l i) ∧ Hid (Row wq g 50 #[.int .u64 (s : Int), .int .i64 (jsTo cs l i)]) ∧ Hid (Out g (g + 1) w2 wq)) (fun _ i _ => ln - (intOf i).toNat)
          case atStart => exact ⟨0, Nat.zero_le _, rfl, jkTo_zero _ _ _, G2, OX⟩
          case round =>
            clear G2 OX
            obtain ⟨i, hi, rfl, hjk, hG, hO⟩ := hrel
            have B3 := Lib.hid (B2.out.trans (hO.out.below (B := w.heap.size) (by omega) (by omega)))
            have R3 := Lib.hid (R2.out.outW hO.out (.inl (by omega)))
            have K3 := Lib.hid (K2.out.outW hO.out (.inl (by omega)))
            have T3 := Lib.hid (T2.out.out hO.out (by omega))
            by_cases hil : i < ln
            · obtain ⟨K, hKn, hgi, -⟩ := bitsL_at (s := s) (n := n) (i := i) (by rw [HLs.out, hln.out]; exact hil)
              rw [HLs.out] at hgi
              have hKn2 : (K : Int) < (n : Int) := by omega
              have WQ := WL.out.out hO.out (.inr (Nat.le_refl _))
              obtain ⟨_, _, _, e3, _, _, _, _, hcl⟩ := WQ.sl
              cases e3
              obtain ⟨lb, loff, rfl, hlb, hcl⟩ := hcl (by omega)
              have y0 := hcl i hil
              rw [hgi] at y0
              obtain ⟨vb, voff, rfl, hvb, hvc⟩ := HC.out (by omega)
              obtain ⟨c0, c1⟩ := cellsS hvc hKn B3.out (World.block_lt_of_cell? w _ (hvc (K * 2) (by omega)))
              have hbd := jsTo_bd HS.out HI.out (show i ≤ l.length by rw [hln.out]; exact hi)
              have hsp := (HS.out K hKn).1
              have HKT : Hid ((gi l i).toNat = K) := Lib.hid (by rw [hgi]; omega)
              have hil2 : (i : Int) < (ln : Int) := by omega
              have hw : IntKind.i64.wrap (jsTo cs l i + smi cs K) = jsTo cs l i + smi cs K := IntWalk.i64_in _ (by omega)
              clear hcl hvc WQ hgi
              by_cases he : ski cs K = kind
              · have t1 : (ski cs K != kind) = false := by simp [he]
                have HN : Hid (jsTo cs l (i + 1) = jsTo cs l i + smi cs K) := Lib.hid (by rw [jsTo, HKT.out])
                have HJ2 : Hid (jkTo cs kind l (i + 1)) := Lib.hid (jkTo_succ hjk.out (by rw [HKT.out]; exact he))
                have g1 : wr.cell? ⟨g, 1, none⟩ = some (.int .i64 (jsTo cs l i)) := by rw [hG.out.cell]; rfl
                have f1 := hG.out.frozen 1
                clear he
                go_wp2
                go_region
                all_goals
                  go_wp2
                  go_roundw
                  case rel => exact ⟨i + 1, by omega, by go_num, HJ2, by rw [HN.out]; exact Lib.hid (show Row _ _ _ _ from hG.out.set 1 _), Lib.hid (out_drewN (hO.out.setCell (a := ⟨g, 1, none⟩) (Nat.le_refl _) (by show g < g + 1; omega) _) 1)⟩
                  case measure => simp [intOf]; omega
              · have t1 : (ski cs K != kind) = true := by simp [he]
                have HN : Hid (bj cs kind miles n (s + 1) = b) := Lib.hid (by
                  rw [bj_no (by unfold gdB; rw [HLs.out, jtI_no (k := i) (by rw [hln.out]; exact hil) (by rw [HKT.out]; exact he)]; exact decide_eq_false (by have := HM.out; omega))]
                  exact hb.out)
                clear he
                go_wp2
                go_roundw
                case rel => exact ⟨s + 1, b, bm, by omega, by omega, by go_num, HN, hbm, R3, K3, B3, T3⟩
                case measure => simp [intOf]; omega
            · obtain rfl : i = ln := by omega
              obtain ⟨J, hJ⟩ : ∃ J, jsTo cs l i = J := ⟨_, rfl⟩
              have HJ3 : Hid (jtI cs kind (bitsL s n) = J) := Lib.hid (by rw [HLs.out, jtI_yes (by rw [hln.out]; exact hjk.out), hln.out]; exact hJ)
              rw [hJ] at hG
              clear hJ
              have g0 : wr.cell? ⟨g, 0, none⟩ = some (.int .u64 (s : Int)) := by rw [hG.out.cell]; rfl
              have g1 : wr.cell? ⟨g, 1, none⟩ = some (.int .i64 J) := by rw [hG.out.cell]; rfl
              have k0 : wr.cell? ⟨w1.heap.size, 0, none⟩ = some (.int .u64 (b : Int)) := by rw [K3.out.cell]; rfl
              have k1 : wr.cell? ⟨w1.heap.size, 1, none⟩ = some (.int .i64 bm) := by rw [K3.out.cell]; rfl
              have hb10 : b < 1024 := by omega
              by_cases hgd : miles ≤ J
              · have t1 : decide (miles ≤ J) = true := decide_eq_true hgd
                have HG : Hid (gdB cs kind miles n s = true) := Lib.hid (by unfold gdB; rw [HJ3.out]; exact t1)
                by_cases hb0 : b = 0
                · subst hb0
                  have HN := Lib.hid (bj_first HG.out hb.out)
                  have f0 := K3.out.frozen 0
                  have f1 := K3.out.frozen 1
                  have R4 := Lib.hid ((R3.out.other (a := ⟨w1.heap.size, 0, none⟩) (by show w.heap.size ≠ w1.heap.size; omega) (.int .u64 (s : Int))).other (a := ⟨w1.heap.size, 1, none⟩) (by show w.heap.size ≠ w1.heap.size; omega) (.int .i64 J))
                  have K4 := Lib.hid (bj_fin K3.out rfl (.int .u64 (s : Int)) (.int .i64 J))
                  have B4 := Lib.hid ((B3.out.setCell (p := ⟨w1.heap.size, 0, none⟩) (Nat.le_of_lt z1) (.int .u64 (s : Int))).setCell (p := ⟨w1.heap.size, 1, none⟩) (Nat.le_of_lt z1) (.int .i64 J))
                  have T4 := Lib.hid (T3.out.below (((Below.refl w.heap.size wr).setCell (p := ⟨w1.heap.size, 0, none⟩) (Nat.le_of_lt z1) (.int .u64 (s : Int))).setCell (p := ⟨w1.heap.size, 1, none⟩) (Nat.le_of_lt z1) (.int .i64 J)) hw1)
                  clear hG
                  go_wp2
                  go_roundw
                  case rel => exact ⟨s + 1, s, J, by omega, by omega, by go_num, HN, Lib.hid fun _ => HJ3.out, R4, K4, B4, T4⟩
                  case measure => simp [intOf]; omega
                · have hbz : ((b : Int) == 0) = false := by rw [beq_eq_false_iff_ne]; omega
                  have HN := Lib.hid (bj_ah HG.out hb.out hb0)
                  obtain ⟨A, hA⟩ : ∃ A, ahJ s b J bm = A := ⟨_, rfl⟩
                  have HA : Hid (ahd cs kind (bitsL s n) (bitsL b n) = A) := Lib.hid (by rw [← ah_is (by rw [HP.out]; exact hlt) (by rw [HP.out]; omega) hn10 HJ3.out (hbm.out hb0)]; exact hA)
                  have HA2 := Lib.hid hA
                  clear hA
                  go_wp2_with fail
                  refine (joCmp_b s b J bm _ hs10 hb10 T3.out).mono ?_
                  rintro e w3 ⟨r, rfl, hr, b3⟩
                  clear g0 g1 k0 k1
                  replace R3 := Lib.hid (R3.out.old b3.out)
                  replace K3 := Lib.hid (K3.out.old b3.out)
                  replace B3 := Lib.hid (nextW B3.out b3.out)
                  replace T3 := Lib.hid (T3.out.old b3.out)
                  replace hG := Lib.hid (hG.out.old b3.out)
                  have hrd := hr.out
                  rw [HA2.out] at hrd
                  clear b3 hO
                  cases A with
                  | true =>
                    have HN2 : Hid (bj cs kind miles n (s + 1) = s) := Lib.hid (by rw [HN.out, HA.out]; rfl)
                    have g0 : w3.cell? ⟨g, 0, none⟩ = some (.int .u64 (s : Int)) := by rw [hG.out.cell]; rfl
                    have g1 : w3.cell? ⟨g, 1, none⟩ = some (.int .i64 J) := by rw [hG.out.cell]; rfl
                    have k0 : w3.cell? ⟨w1.heap.size, 0, none⟩ = some (.int .u64 (b : Int)) := by rw [K3.out.cell]; rfl
                    have k1 : w3.cell? ⟨w1.heap.size, 1, none⟩ = some (.int .i64 bm) := by rw [K3.out.cell]; rfl
                    have f0 := K3.out.frozen 0
                    have f1 := K3.out.frozen 1
                    have R4 := Lib.hid ((R3.out.other (a := ⟨w1.heap.size, 0, none⟩) (by show w.heap.size ≠ w1.heap.size; omega) (.int .u64 (s : Int))).other (a := ⟨w1.heap.size, 1, none⟩) (by show w.heap.size ≠ w1.heap.size; omega) (.int .i64 J))
                    have K4 := Lib.hid (bj_fin K3.out rfl (.int .u64 (s : Int)) (.int .i64 J))
                    have B4 := Lib.hid ((B3.out.setCell (p := ⟨w1.heap.size, 0, none⟩) (Nat.le_of_lt z1) (.int .u64 (s : Int))).setCell (p := ⟨w1.heap.size, 1, none⟩) (Nat.le_of_lt z1) (.int .i64 J))
                    have T4 := Lib.hid (T3.out.below (((Below.refl w.heap.size w3).setCell (p := ⟨w1.heap.size, 0, none⟩) (Nat.le_of_lt z1) (.int .u64 (s : Int))).setCell (p := ⟨w1.heap.size, 1, none⟩) (Nat.le_of_lt z1) (.int .i64 J)) hw1)
                    clear hG
                    go_wp2
                    go_roundw
                    case rel => exact ⟨s + 1, s, J, by omega, by omega, by go_num, HN2, Lib.hid fun _ => HJ3.out, R4, K4, B4, T4⟩
                    case measure => simp [intOf]; omega
                  | false =>
                    have HN2 : Hid (bj cs kind miles n (s + 1) = b) := Lib.hid (by rw [HN.out, HA.out]; rfl)
                    clear hG
                    go_wp2
                    go_roundw
                    case rel => exact ⟨s + 1, b, bm, by omega, by omega, by go_num, HN2, hbm, R3, K3, B3, T3⟩
                    case measure => simp [intOf]; omega
              · have t1 : decide (miles ≤ J) = false := decide_eq_false hgd
                have HN : Hid (bj cs kind miles n (s + 1) = b) := Lib.hid (by rw [bj_no (by unfold gdB; rw [HJ3.out]; exact t1)]; exact hb.out)
                clear hG
                go_wp2
                go_roundw
                case rel => exact ⟨s + 1, b, bm, by omega, by omega, by go_num, HN, hbm, R3, K3, B3, T3⟩
                case measure => simp [intOf]; omega
        · obtain rfl : s = P := by omega
          have k0 : wr.cell? ⟨w1.heap.size, 0, none⟩ = some (.int .u64 (b : Int)) := by rw [hK.out.cell]; rfl
          have k1 : wr.cell? ⟨w1.heap.size, 1, none⟩ = some (.int .i64 bm) := by rw [hK.out.cell]; rfl
          have c0 : wr.cell? ⟨w.heap.size, 0, none⟩ = some (.int .u64 0) := by rw [hR.out.cell]; rfl
          have c1 : wr.cell? ⟨w.heap.size, 1, none⟩ = some (.int .i64 0) := by rw [hR.out.cell]; rfl
          have f0 := hR.out.frozen 0
          have f1 := hR.out.frozen 1
          have fin := bj_fin hR.out (rfl : (0 : Nat) = 0) (.int .u64 (b : Int)) (.int .i64 bm)
          have BF := Lib.hid (below_drewN ((hB.out.setCell (p := ⟨w.heap.size, 0, none⟩) (Nat.le_refl _) (.int .u64 (b : Int))).setCell (p := ⟨w.heap.size, 1, none⟩) (Nat.le_refl _) (.int .i64 bm)) 1)
          have HR : Hid (bestJ cs n kind miles = b) := Lib.hid (HJ.out.trans hb.out)
          by_cases hb0 : b = 0
          · have hbz : ((b : Int) != 0) = false := by simp [hb0]
            have HR2 : Hid (jbB cs n kind miles = false) := Lib.hid (by unfold jbB; rw [HR.out]; simp [hb0])
            clear hb0
            go_wp2
            go_region
            all_goals
              go_wp2
              rw [Exit.noGoto_ret]
              refine bodyPost_ret (results_cellJ rfl _ _ w.heap.size _ _ rfl (show Row (World.drewN _ 1) _ _ _ from fin) joint_agg joint_size) rfl ?_
              exact ⟨bm, by rw [HR.out, HR2.out]; rfl, BF⟩
          · have hbz : ((b : Int) != 0) = true := by rw [bne_iff_ne]; omega
            have HR2 : Hid (jbB cs n kind miles = true) := Lib.hid (by unfold jbB; rw [HR.out]; simp [hb0])
            go_wp2
            go_region
            all_goals
              go_wp2
              rw [Exit.noGoto_ret]
              refine bodyPost_ret (results_cellJ rfl _ _ w.heap.size _ _ rfl (show Row (World.drewN _ 1) _ _ _ from fin) joint_agg joint_size) rfl ?_
              exact ⟨bm, by rw [HR.out, HR2.out]; rfl, BF⟩

end Go.Proofs.YthbkimojbbkeiaaDoor
