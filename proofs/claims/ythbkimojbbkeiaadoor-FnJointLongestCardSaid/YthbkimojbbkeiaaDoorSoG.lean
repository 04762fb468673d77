/- Contract: the insertion sort, by the order of the sort. -/
import Derived.Test.YthbkimojbbkeiaaDoorSoF
import Derived.Test.YthbkimojbbkeiaaDoorSoPlain
import Derived.BigRegion
namespace Go.Proofs.YthbkimojbbkeiaaDoor
open Go.RowKit

theorem soI_lt {m1 k1 m2 k2 : Int} (h1 : pOk (m1, k1)) (h2 : pOk (m2, k2)) : decide (soI m1 k1 m2 k2 < 0) = decide (key (m1, k1) < key (m2, k2)) := by
  rw [decide_eq_decide]
  simp only [pOk] at h1 h2
  simp only [soI, orI, cmpI, key]
  by_cases a : k1 < k2
  · simp only [if_pos a]
    simp; omega
  · by_cases b : k2 < k1
    · simp only [if_neg a, if_pos b]
      simp; omega
    · by_cases c : m2 < m1
      · simp only [if_neg a, if_neg b, if_pos c]
        simp; omega
      · by_cases d : m1 < m2
        · simp only [if_neg a, if_neg b, if_neg c, if_pos d]
          simp; omega
        · simp only [if_neg a, if_neg b, if_neg c, if_neg d]
          simp; omega
theorem soCmp_is (m1 k1 m2 k2 : Int) (w : World) :
    Calls Tryd.prog 34 #[.agg #[.int .i64 m1, .int .i64 k1], .agg #[.int .i64 m2, .int .i64 k2]] w fun e w' => e = .returned (.int .i64 (soI m1 k1 m2 k2)) ∧ Below w.heap.size w w' := soCmp_b m1 k1 m2 k2 w

/-- What the loops of the insertion sort keep: the same spares, the first i in order. -/
def SoK (cs ys : List Int) (n i : Nat) : Prop := (prs ys n).Perm (prs cs n) ∧ ∀ a b, a < b → b < i → kyf ys a ≤ kyf ys b
/-- .. but for what comes before place j. -/
def SoJ (cs ys : List Int) (n i j : Nat) : Prop := (prs ys n).Perm (prs cs n) ∧ SrtBut (kyf ys) i j

theorem OwP.swp {w : World} {B g n c cap : Nat} {ys : List Int} (h : OwP w B (.slice (some ⟨g, 0, none⟩) n cap) ys c) (i j : Nat) :
    OwP ((((w.setCell ⟨g, i * 2, none⟩ (.int .i64 (smi ys j))).setCell ⟨g, i * 2 + 1, none⟩ (.int .i64 (ski ys j))).setCell ⟨g, j * 2, none⟩ (.int .i64 (smi ys i))).setCell ⟨g, j * 2 + 1, none⟩ (.int .i64 (ski ys i))) B (.slice (some ⟨g, 0, none⟩) n cap) (swp ys i j) c :=
  (((h.set _ _).set _ _).set _ _).set _ _
theorem OwP.drewN {w : World} {B c : Nat} {v : Value} {ys : List Int} (h : OwP w B v ys c) (m : Nat) : OwP (w.drewN m) B v ys c := h.below (below_drewN (Below.refl _ _) m)

theorem ne_off {g a b : Nat} (h : a ≠ b) : (⟨g, a, none⟩ : Addr) ≠ ⟨g, b, none⟩ := fun e => h (by cases e; rfl)
theorem cell_set_ne {w : World} {g a b : Nat} {u : Value} {x : Option Value} (h : a ≠ b) (hc : w.cell? ⟨g, b, none⟩ = x) : (w.setCell ⟨g, a, none⟩ u).cell? ⟨g, b, none⟩ = x := (World.cell?_setCell_other (h := ne_off h) ..).trans hc
set_option maxRecDepth 100000 in
set_option maxHeartbeats 4000000 in
theorem insS_any (v : Value) (cs : List Int) (n B : Nat) (w : World) (h : OwP w B v cs n) (hn : n ≤ 10) (hc : spTo cs n) (hB : B ≤ w.heap.size) :
    Calls Tryd.prog 59 #[v, .int .i64 0, .int .i64 n, .func (.func 34) #[] #[]] w fun e w' => e = .returned (.tuple #[]) ∧ Hid (Below B w w') ∧ Hid (∃ ys, OwP w' B v ys n ∧ SoK cs ys n n) := by
  have HC := Lib.hid hc
  have HO := Lib.hid h
  obtain ⟨a, cap, rfl, -⟩ := h.form0
  clear h hc
  go_enter Tryd.func59, Tryd.ntmps59
  go_wp2
  go_loopw [8] (fun iv wr => ∃ (i : Nat) (ys : List Int), 1 ≤ i ∧ i ≤ n + 1 ∧ iv = .int .i64 i ∧ Hid (Below B w wr) ∧ Hid (OwP wr B (.slice a n cap) ys n) ∧ Hid (SoK cs ys n i)) (fun i _ => n + 1 - (intOf i).toNat)
  case atStart => exact ⟨1, cs, by omega, by omega, rfl, Below.refl _ _, HO, List.Perm.refl _, fun a b h1 h2 => by omega⟩
  case round =>
    clear HO
    obtain ⟨i, ys, hi1, hin, rfl, hBw, hO, hK⟩ := hrel
    by_cases hlt : i < n
    · obtain ⟨g, cap', e, hBg, -, -, -, -, -⟩ := hO.out.form (by omega)
      obtain ⟨rfl, rfl⟩ : a = some ⟨g, 0, none⟩ ∧ cap = cap' := by cases e; exact ⟨rfl, rfl⟩
      clear e
      have HJ : Hid (SoJ cs ys n i i) := Lib.hid ⟨hK.out.1, srtBut_start hK.out.2⟩
      clear hK
      go_wp2
      go_loopw [9] (fun jv wq => ∃ (j : Nat) (zs : List Int), j ≤ i ∧ jv = .int .i64 j ∧ Hid (Below B w wq) ∧ Hid (OwP wq B (.slice (some ⟨g, 0, none⟩) n cap) zs n) ∧ Hid (SoJ cs zs n i j)) (fun j _ => (intOf j).toNat)
      case atStart => exact ⟨i, ys, Nat.le_refl _, rfl, hBw, hO, HJ⟩
      case round =>
        clear HJ hO hBw
        obtain ⟨j, zs, hji, rfl, hB1, hO1, hJ⟩ := hrel
        by_cases hj0 : 0 < j
        · obtain ⟨J, rfl⟩ : ∃ J, j = J + 1 := ⟨j - 1, by omega⟩
          have hsz := spTo_perm hJ.out.1 HC.out
          obtain ⟨p0, p1⟩ : pOk (smi zs (J + 1), ski zs (J + 1)) ∧ pOk (smi zs J, ski zs J) := ⟨hsz _ (by omega), hsz _ (by omega)⟩
          have HT := Lib.hid (soI_lt p0 p1)
          clear hsz p0 p1
          have hlz : Hid (zs.length = n * 2) := Lib.hid (hO1.out.form0.elim fun _ h => h.elim fun _ h => h.2)
          obtain ⟨g', cap', e, -, -, -, -, hcl, hfz⟩ := hO1.out.form (by omega)
          cases e
          have c0 : wr.cell? ⟨g, (J + 1) * 2, none⟩ = some (.int .i64 (smi zs (J + 1))) := hcl _ (by omega)
          have c1 : wr.cell? ⟨g, (J + 1) * 2 + 1, none⟩ = some (.int .i64 (ski zs (J + 1))) := hcl _ (by omega)
          have d0 : wr.cell? ⟨g, J * 2, none⟩ = some (.int .i64 (smi zs J)) := hcl _ (by omega)
          have d1 : wr.cell? ⟨g, J * 2 + 1, none⟩ = some (.int .i64 (ski zs J)) := hcl _ (by omega)
          have k0 := cell_regrown c0
          have k1 := cell_regrown c1
          have l0 := cell_regrown d0
          have l1 := cell_regrown d1
          have hzz := hB1.out.size
          clear hcl hfz
          have x1 : (J : Int) + 1 < (n : Int) := by omega
          have x2 : (J : Int) < (n : Int) := by omega
          have x3 : (0 : Int) < (J : Int) + 1 := by omega
          have x4 : (0 : Int) ≤ (J : Int) + 1 := by omega
          have x5 : ((J : Int) + 1).toNat = J + 1 := by omega
          have y1 : decide ((0 : Int) < (J : Int) + 1) = true := decide_eq_true x3
          by_cases hk : key (smi zs (J + 1), ski zs (J + 1)) < key (smi zs J, ski zs J)
          · have T : decide (soI (smi zs (J + 1)) (ski zs (J + 1)) (smi zs J) (ski zs J) < 0) = true := HT.out.trans (decide_eq_true hk)
            have HK := Lib.hid hk
            clear hk
            go_wp2
            refine wp_region_quiet_below (by kernel_rfl) (by kernel_rfl) ?_
            repeat (any_goals (first | go_big_quiet_step (((go_at_call 34; exact Calls.regrown_of (soCmp_is _ _ _ _ _)))) | quiet_step (((go_at_call 34; exact Calls.regrown_of (soCmp_is _ _ _ _ _))))))
            refine wpQuiet_nil ?_
            intro _ hw'
            obtain ⟨⟨dq, osq⟩, hw''⟩ := hw'
            subst hw''
            have bq := below_regrown (wr) dq osq
            revert bq
            generalize Go.Sort.grow (redrawn (wr) dq) osq = wq
            intro bq
            have HB2 := Lib.hid (hB1.out.trans (bq.mono (Nat.le_trans hB hzz)))
            have HO2 := Lib.hid (hO1.out.below bq)
            clear bq c0 c1 d0 d1 k0 k1 l0 l1 hB1 hO1 T hzz
            obtain ⟨g', cap', e, -, -, -, -, hcl, hfz⟩ := HO2.out.form (by omega)
            cases e
            have c0 : wq.cell? ⟨g, (J + 1) * 2, none⟩ = some (.int .i64 (smi zs (J + 1))) := hcl _ (by omega)
            have c1 : wq.cell? ⟨g, (J + 1) * 2 + 1, none⟩ = some (.int .i64 (ski zs (J + 1))) := hcl _ (by omega)
            have d0 : wq.cell? ⟨g, J * 2, none⟩ = some (.int .i64 (smi zs J)) := hcl _ (by omega)
            have d1 : wq.cell? ⟨g, J * 2 + 1, none⟩ = some (.int .i64 (ski zs J)) := hcl _ (by omega)
            have f0 := hfz ((J + 1) * 2)
            have f1 := hfz ((J + 1) * 2 + 1)
            have f2 := hfz (J * 2)
            have f3 := hfz (J * 2 + 1)
            have e0 : ((wq.setCell ⟨g, (J + 1) * 2, none⟩ (.int .i64 (smi zs J))).setCell ⟨g, (J + 1) * 2 + 1, none⟩ (.int .i64 (ski zs J))).cell? ⟨g, J * 2, none⟩ = some (.int .i64 (smi zs J)) := cell_set_ne (by omega) (cell_set_ne (by omega) d0)
            have e1 : (((wq.setCell ⟨g, (J + 1) * 2, none⟩ (.int .i64 (smi zs J))).setCell ⟨g, (J + 1) * 2 + 1, none⟩ (.int .i64 (ski zs J))).setCell ⟨g, J * 2, none⟩ (.int .i64 (smi zs (J + 1)))).cell? ⟨g, J * 2 + 1, none⟩ = some (.int .i64 (ski zs J)) := cell_set_ne (by omega) (cell_set_ne (by omega) (cell_set_ne (by omega) d1))
            clear hcl hfz
            have HN : Hid (SoJ cs (swp zs (J + 1) J) n i J) := Lib.hid (by
              obtain ⟨k1, k2, k3⟩ := swp_ky hlz.out (show J + 1 < n by omega) (show J < n by omega) (by omega)
              exact ⟨(swp_perm hlz.out (by omega) (by omega) (by omega)).trans hJ.out.1, srtBut_swap (j := J + 1) hJ.out.2 (by omega) hji HK.out k1 k2 k3⟩)
            go_wp2
            go_region
            all_goals
              go_wp2
              go_roundw
              case rel => exact ⟨J, swp zs (J + 1) J, by omega, by go_num, Lib.hid (below_drewN ((((HB2.out.setCell (p := ⟨g, (J + 1) * 2, none⟩) hBg _).setCell (p := ⟨g, (J + 1) * 2 + 1, none⟩) hBg _).setCell (p := ⟨g, J * 2, none⟩) hBg _).setCell (p := ⟨g, J * 2 + 1, none⟩) hBg _) 1), Lib.hid ((HO2.out.swp (J + 1) J).drewN 1), HN⟩
              case measure => simp [intOf]
          · have T : decide (soI (smi zs (J + 1)) (ski zs (J + 1)) (smi zs J) (ski zs J) < 0) = false := HT.out.trans (decide_eq_false hk)
            have HN : Hid (SoK cs zs n (i + 1)) := Lib.hid ⟨hJ.out.1, srtBut_stop hJ.out.2 hji (.inr (Int.not_lt.1 hk))⟩
            clear hk
            go_wp2
            refine wp_region_quiet_below (by kernel_rfl) (by kernel_rfl) ?_
            repeat (any_goals (first | go_big_quiet_step (((go_at_call 34; exact Calls.regrown_of (soCmp_is _ _ _ _ _)))) | quiet_step (((go_at_call 34; exact Calls.regrown_of (soCmp_is _ _ _ _ _))))))
            refine wpQuiet_nil ?_
            intro _ hw'
            obtain ⟨⟨dq, osq⟩, hw''⟩ := hw'
            subst hw''
            have bq := below_regrown (wr) dq osq
            revert bq
            generalize Go.Sort.grow (redrawn (wr) dq) osq = wq
            intro bq
            have HB2 := Lib.hid (hB1.out.trans (bq.mono (Nat.le_trans hB hzz)))
            have HO2 := Lib.hid (hO1.out.below bq)
            clear bq c0 c1 d0 d1 k0 k1 l0 l1 hB1 hO1 T hzz
            go_wp2
            go_roundw
            case rel => exact ⟨i + 1, zs, by omega, by omega, by go_num, HB2, HO2, HN⟩
            case measure => simp [intOf]; omega
        · obtain rfl : j = 0 := by omega
          have HN : Hid (SoK cs zs n (i + 1)) := Lib.hid ⟨hJ.out.1, srtBut_stop hJ.out.2 hji (.inl rfl)⟩
          go_wp2
          refine wp_region_quiet_below (by kernel_rfl) (by kernel_rfl) ?_
          repeat (any_goals (first | go_big_quiet_step ((fail)) | quiet_step ((fail))))
          refine wpQuiet_nil ?_
          intro _ hw'
          obtain ⟨⟨dq, osq⟩, hw''⟩ := hw'
          subst hw''
          have bq := below_regrown (wr) dq osq
          revert bq
          generalize Go.Sort.grow (redrawn (wr) dq) osq = wq
          intro bq
          have HB2 := Lib.hid (hB1.out.trans (bq.mono (Nat.le_trans hB hB1.out.size)))
          have HO2 := Lib.hid (hO1.out.below bq)
          clear bq hB1 hO1
          go_wp2
          go_roundw
          case rel => exact ⟨i + 1, zs, by omega, by omega, by go_num, HB2, HO2, HN⟩
          case measure => simp [intOf]; omega
    · go_wp2
      go_end0
      exact ⟨rfl, hBw, Lib.hid ⟨ys, hO.out, hK.out.1, fun a b h1 h2 => hK.out.2 a b h1 (by omega)⟩⟩

end Go.Proofs.YthbkimojbbkeiaaDoor
