/- Contracts: CableBack, FaultBack of the program. -/
import Derived.Test.YtoanefccnbnkmaaCbP
import Derived.Test.YtoanefccnbnkmaaDrC
import Derived.Test.YtoanefccnbnkmaaFault
import Derived.Test.YtoanefccnbnkmaaFind
import Derived.BigRegion
import Derived.Lib.SliceRun
import Derived.Deep.RegionHeld3
namespace Go.Proofs.Ytoanefccnbnkmaa
open Go.RowKit

theorem cell_set_ne {w : World} {g a b : Nat} {u : Value} {x : Option Value} (h : a ≠ b) (hc : w.cell? ⟨g, b, none⟩ = x) : (w.setCell ⟨g, a, none⟩ u).cell? ⟨g, b, none⟩ = x :=
  (World.cell?_setCell_other (h := (fun e => h (by cases e; rfl) : (⟨g, a, none⟩ : Addr) ≠ ⟨g, b, none⟩)) ..).trans hc
theorem OwS.drewN {w : World} {B c : Nat} {v : Value} {ys : List Int} (h : OwS w B v ys c) (m : Nat) : OwS (w.drewN m) B v ys c := h.below (below_drewN (Below.refl _ _) m)
theorem OwS.form0 {w : World} {B c : Nat} {v : Value} {ys : List Int} (h : OwS w B v ys c) : ∃ a cap, v = .slice a c cap ∧ ys.length = c * 3 := by
  obtain ⟨hl, hv⟩ := h
  have hln : ys.length = c * 3 := by simpa using hl
  rcases hv with ⟨rfl, h1⟩ | ⟨g, cap, cur, rfl, _⟩
  · exact ⟨_, _, by rw [h1], hln⟩
  · exact ⟨_, _, rfl, hln⟩
theorem OwS.sw {w : World} {B g n c cap : Nat} {ys : List Int} (h : OwS w B (.slice (some ⟨g, 0, none⟩) n cap) ys c) (i j : Nat) :
    OwS ((((((w.setCell ⟨g, i * 3, none⟩ (.int .i64 (mi ys j))).setCell ⟨g, i * 3 + 1, none⟩ (.int .i64 (ki ys j))).setCell ⟨g, i * 3 + 2, none⟩ (.int .i64 (oi ys j))).setCell ⟨g, j * 3, none⟩ (.int .i64 (mi ys i))).setCell ⟨g, j * 3 + 1, none⟩ (.int .i64 (ki ys i))).setCell ⟨g, j * 3 + 2, none⟩ (.int .i64 (oi ys i))) B (.slice (some ⟨g, 0, none⟩) n cap) (sw3 ys i j) c :=
  (((((h.set _ _).set _ _).set _ _).set _ _).set _ _).set _ _

theorem slF_clip {s : Nat} {w : World} {hi n c : Nat} {a : Option Addr} {cs : List Int} (h : SlF s w hi (.slice a n c) cs n) : SlF s w hi (.slice a n n) cs n := by
  obtain ⟨a', cap, e', h1, h2, h3, h4, h5⟩ := h
  cases e'
  exact ⟨a, n, rfl, h1, h2, Nat.le_refl _, by omega, h5⟩
theorem implMiles_is {M : Int} (v : Value) (cs : List Int) (n hi : Nat) (w : World) (hv : SlF 3 w hi v cs n) (h : milesI cs n = M) :
    Calls Try.prog 42 #[v] w fun e w' => e = .returned (.int .i64 M) ∧ Below w.heap.size w w' := h ▸ implCableMiles_b v cs n hi w hv

set_option maxRecDepth 100000 in
set_option maxHeartbeats 4000000 in
theorem reverseS_any (g n cap B : Nat) (cs : List Int) (w : World) (h : OwS w B (.slice (some ⟨g, 0, none⟩) n cap) cs n) (hn : n ≤ 100) (hn1 : 1 ≤ n) :
    Calls Try.prog 88 #[.slice (some ⟨g, 0, none⟩) n cap] w fun e w' => e = .returned (.tuple #[]) ∧ Hid (Below B w w') ∧ Hid (OwS w' B (.slice (some ⟨g, 0, none⟩) n cap) (rvC cs n) n) := by
  have HO := Lib.hid h
  have hl : cs.length = n * 3 := h.form0.elim fun _ h => h.elim fun _ h => h.2
  have hBg : B ≤ g := by
    obtain ⟨g', cap', e', hBg, -⟩ := h.form (by omega)
    cases e'
    exact hBg
  have RV := Lib.hid (rv_start hl)
  clear h hl
  go_enter Try.func88, Try.ntmps88
  go_wp2
  go_loopw [2, 3] (fun iv jv wr => ∃ (i : Nat) (ys : List Int), i ≤ n - 1 - i + 1 ∧ iv = .int .i64 i ∧ jv = .int .i64 ((n : Int) - 1 - (i : Int)) ∧ Hid (Below B w wr) ∧ Hid (OwS wr B (.slice (some ⟨g, 0, none⟩) n cap) ys n) ∧ Hid (RvTo cs ys n i)) (fun i _ _ => n - (intOf i).toNat)
  case atStart => exact ⟨0, cs, by omega, rfl, by simp, Below.refl _ _, HO, RV⟩
  case round =>
    clear HO RV
    obtain ⟨i, ys, hin, rfl, rfl, hBw, hO, hR⟩ := hrel
    by_cases hlt : i < n - 1 - i
    · obtain ⟨J, hJ⟩ : ∃ J, n - 1 - i = J := ⟨_, rfl⟩
      have hJi : (n : Int) - 1 - (i : Int) = (J : Int) := by omega
      have HS : Hid (RvTo cs (sw3 ys i J) n (i + 1)) := Lib.hid (by rw [← hJ]; exact rv_step hR.out hlt)
      rw [hJi]
      have hnx : (J : Int) - 1 = (n : Int) - 1 - ((i : Int) + 1) := by omega
      have hJn : J < n := by omega
      have hiJ : i < J := by omega
      have hJb : i + 1 ≤ n - 1 - (i + 1) + 1 := by omega
      rw [hJ] at hlt
      clear hJ hJi hin
      obtain ⟨g', cap', e, -, -, -, -, hcl, hfz⟩ := hO.out.form (by omega)
      cases e
      have a0 : wr.cell? ⟨g, i * 3, none⟩ = some (.int .i64 (mi ys i)) := hcl _ (by omega)
      have a1 : wr.cell? ⟨g, i * 3 + 1, none⟩ = some (.int .i64 (ki ys i)) := hcl _ (by omega)
      have a2 : wr.cell? ⟨g, i * 3 + 2, none⟩ = some (.int .i64 (oi ys i)) := hcl _ (by omega)
      have b0 : wr.cell? ⟨g, J * 3, none⟩ = some (.int .i64 (mi ys J)) := hcl _ (by omega)
      have b1 : wr.cell? ⟨g, J * 3 + 1, none⟩ = some (.int .i64 (ki ys J)) := hcl _ (by omega)
      have b2 : wr.cell? ⟨g, J * 3 + 2, none⟩ = some (.int .i64 (oi ys J)) := hcl _ (by omega)
      have f0 := hfz (i * 3)
      have f1 := hfz (i * 3 + 1)
      have f2 := hfz (i * 3 + 2)
      have f3 := hfz (J * 3)
      have f4 := hfz (J * 3 + 1)
      have f5 := hfz (J * 3 + 2)
      have e0 : (((wr.setCell ⟨g, i * 3, none⟩ (.int .i64 (mi ys J))).setCell ⟨g, i * 3 + 1, none⟩ (.int .i64 (ki ys J))).setCell ⟨g, i * 3 + 2, none⟩ (.int .i64 (oi ys J))).cell? ⟨g, J * 3, none⟩ = some (.int .i64 (mi ys J)) := cell_set_ne (by omega) (cell_set_ne (by omega) (cell_set_ne (by omega) b0))
      have e1 : ((((wr.setCell ⟨g, i * 3, none⟩ (.int .i64 (mi ys J))).setCell ⟨g, i * 3 + 1, none⟩ (.int .i64 (ki ys J))).setCell ⟨g, i * 3 + 2, none⟩ (.int .i64 (oi ys J))).setCell ⟨g, J * 3, none⟩ (.int .i64 (mi ys i))).cell? ⟨g, J * 3 + 1, none⟩ = some (.int .i64 (ki ys J)) := cell_set_ne (by omega) (cell_set_ne (by omega) (cell_set_ne (by omega) (cell_set_ne (by omega) b1)))
      have e2 : (((((wr.setCell ⟨g, i * 3, none⟩ (.int .i64 (mi ys J))).setCell ⟨g, i * 3 + 1, none⟩ (.int .i64 (ki ys J))).setCell ⟨g, i * 3 + 2, none⟩ (.int .i64 (oi ys J))).setCell ⟨g, J * 3, none⟩ (.int .i64 (mi ys i))).setCell ⟨g, J * 3 + 1, none⟩ (.int .i64 (ki ys i))).cell? ⟨g, J * 3 + 2, none⟩ = some (.int .i64 (oi ys J)) := cell_set_ne (by omega) (cell_set_ne (by omega) (cell_set_ne (by omega) (cell_set_ne (by omega) (cell_set_ne (by omega) b2))))
      have x1 : (i : Int) < (J : Int) := by omega
      have x2 : (J : Int) < (n : Int) := by omega
      have x3 : (i : Int) < (n : Int) := by omega
      have hw : IntKind.i64.wrap ((J : Int) - 1) = (J : Int) - 1 := IntWalk.i64_in _ (by omega)
      clear hcl hfz
      go_wp2
      go_region
      all_goals
        go_wp2
        go_roundw
        case rel => exact ⟨i + 1, sw3 ys i J, hJb, by go_num, by simp only [Value.int.injEq, true_and]; omega, Lib.hid (below_drewN ((((((hBw.out.setCell (p := ⟨g, i * 3, none⟩) hBg _).setCell (p := ⟨g, i * 3 + 1, none⟩) hBg _).setCell (p := ⟨g, i * 3 + 2, none⟩) hBg _).setCell (p := ⟨g, J * 3, none⟩) hBg _).setCell (p := ⟨g, J * 3 + 1, none⟩) hBg _).setCell (p := ⟨g, J * 3 + 2, none⟩) hBg _) 1), Lib.hid ((hO.out.sw i J).drewN 1), HS⟩
        case measure => simp [intOf]; omega
    · have HE := Lib.hid (rv_end hR.out hlt hin)
      have hd : decide ((i : Int) < (n : Int) - 1 - (i : Int)) = false := decide_eq_false (by omega)
      have hd2 : ¬ (i : Int) < (n : Int) - 1 - (i : Int) := by omega
      go_wp2
      go_end0
      exact ⟨rfl, hBw, by rw [← HE.out]; exact hO⟩

theorem sect_cells {w : World} {b off c : Nat} {zs : List Int} (hl : zs.length = c * 3) (hc : ∀ k, k < c * 3 → w.cell? ⟨b, off + k, none⟩ = some (.int .i64 (gi zs k))) :
    ∀ (j : Nat) (u : Value), (zs.map (Value.int .i64))[j]? = some u → w.cell? ((⟨b, off, none⟩ : Addr).add j) = some u := by
  intro j u hj
  rw [List.getElem?_map] at hj
  have hjl : j < zs.length := by
    cases e : zs[j]? with
    | none => rw [e] at hj; cases hj
    | some z => exact (List.getElem?_eq_some_iff.1 e).1
  rw [addr_add, hc j (by omega)]
  simp only [List.getElem?_eq_getElem hjl, Option.map_some] at hj
  rw [gi_eq hjl]; exact hj
theorem sect_one (zs : List Int) : ∀ u ∈ zs.map (Value.int .i64), u.oneCell' = true := by
  intro u hu
  rw [List.mem_map] at hu
  obtain ⟨z, _, rfl⟩ := hu
  rfl
/-- 'append(out, zs...)', some sections. -/
theorem wpList_appT {ops : Array Oper} {rest : List Oper} {o : Oper} {a : Act} {Q : Exit → Act → World → Prop} {w : World} {B c d b off cap : Nat} {v : Value} {ys zs : List Int} {s x : Operand} (hown : OwS w B v ys c) (hl : zs.length = d * 3) (hc : ∀ k, k < d * 3 → w.cell? ⟨b, off + k, none⟩ = some (.int .i64 (gi zs k))) (hgd : o.guard = none)
    (ho : o.op = .call { callee := .builtin .append, args := #[s, x], argTypes := #[29, 29] })
    (hs : a.eval s = v) (hx : a.eval x = .slice (some ⟨b, off, none⟩) d cap) (hlen : c ≤ 1048576) (hlen2 : d ≤ 1048576) (hB : B ≤ w.heap.size)
    (h : ∀ v' w', OwS w' B v' (ys ++ zs) (c + d) → Below B w w' → wpList Try.prog ops Q rest (a.put o.dst v') w') :
    wpList Try.prog ops Q (o :: rest) a w := by
  obtain ⟨i, hi, hz, hsz, hb⟩ := info_parts infoSection2
  refine wpList_append_own w hgd s x 29 ho B 76 i (.agg #[.int .i64 0, .int .i64 0, .int .i64 0]) 3 24 Try.underlying29 hi hz hsz hb rfl (by decide) v c _ hs hown ⟨b, off, none⟩ d cap (zs.map (Value.int .i64)) hx (by rw [List.length_map, hl]) (sect_cells hl hc) (sect_one zs) ?_ ?_ hB ?_
  · unfold maxLen; omega
  · omega
  · intro v' w' h1 h2 _
    refine h v' w' ?_ ?_
    · unfold OwS
      rw [List.map_append]
      exact h1
    · exact (Below.refl B w).grown h2 hB (fun k hk => (hown.lt k hk).1)

theorem cloneS_any (b off c n : Nat) (cs : List Int) (w : World) (hn : n ≤ 1000) (hl : cs.length = n * 3) (hc : ∀ k, k < n * 3 → w.cell? ⟨b, off + k, none⟩ = some (.int .i64 (gi cs k))) (hb : b < w.heap.size) :
    Calls Try.prog 87 #[.slice (some ⟨b, off, none⟩) n c] w fun e w' => ∃ v', e = .returned v' ∧ Hid (OwS w' w.heap.size v' cs n) ∧ Hid (Below w.heap.size w w') := by
  have bx := (Below.refl w.heap.size w).alloc (Nat.le_refl _) (.cells #[] 76)
  have BX := Lib.hid bx
  have OW := Lib.hid (OwS.empty w w.heap.size (Nat.le_refl _))
  have SR := Lib.hid (fun k hk => (bx.cell (p := ⟨b, off + k, none⟩) hb).trans (hc k hk))
  have HL := Lib.hid hl
  have hz2 : w.heap.size ≤ (w.alloc (.cells #[] 76)).heap.size := by simp
  have q := Lib.run_eql_slice_nil (P := Try.prog) w 29 76 (some ⟨b, off, none⟩) n c 0 0 Try.underlying29
  clear bx hc hl
  go_enter Try.func87, Try.ntmps87
  go_wp2_with (at_builtin; refine wpList_appT OW.out HL.out SR.out (by rfl) (by rfl) (by rfl) (by rfl) (by omega) (by omega) hz2 ?_; intro v5 w5 ow5 b5; rw [List.nil_append, Nat.zero_add] at ow5; have OW5 := Lib.hid ow5; have B5 := Lib.hid b5; clear ow5 b5)
  go_ret
  exact ⟨_, rfl, OW5, Lib.hid (BX.out.trans B5.out)⟩
theorem clipS_any (a : Option Addr) (n c : Nat) (w : World) (hn : n ≤ c) :
    Calls Try.prog 89 #[.slice a n c] w fun e w' => e = .returned (.slice a n n) ∧ w = w' := by
  go_enter Try.func89, Try.ntmps89
  go_wp2_with fail
  go_ret
  exact ⟨rfl, rfl⟩

/-- CableBack of a cable. -/
theorem implCableBack_b (v : Value) (cs : List Int) (n hi : Nat) (w : World) (hv : SlF 3 w hi v cs n) (hcab : cabB cs n = true) :
    Calls Try.prog 50 #[v] w fun e w' => ∃ v', e = .returned (.tuple #[v', .bool true]) ∧ Hid (Below w.heap.size w w') ∧ Hid (SlF 3 w' w'.heap.size v' (rvC cs n) n) := by
  have HV := Lib.hid hv
  obtain ⟨a, cap, rfl, hl, hn, hcap, hcap2, hc⟩ := hv
  have hn8 := (cabB_true.1 hcab).1
  have HC := Lib.hid hcab
  have HL := Lib.hid hl
  obtain ⟨b, off, rfl, hbh, hc⟩ := hc (by omega)
  have HCC := Lib.hid hc
  have hbw := World.block_lt_of_cell? w _ (hc 0 (by omega))
  clear hc hl hcab
  go_enter Try.func50, Try.ntmps50
  go_wp2_with fail
  refine (implCableValid_is _ cs n _ _ HV.out HC.out).mono ?_
  rintro e w1 ⟨rfl, b1⟩
  have B1 := Lib.hid b1
  have C1 := Lib.hid (fun k hk => (b1.cell (p := ⟨b, off + k, none⟩) hbw).trans (HCC.out k hk))
  have hb1 : b < w1.heap.size := Nat.lt_of_lt_of_le hbw b1.size
  clear b1
  go_wp2_with fail
  refine (cloneS_any b off cap n cs _ (by omega) HL.out C1.out hb1).mono ?_
  rintro e w2 ⟨v2, rfl, o2, b2⟩
  obtain ⟨g, cap2, rfl, hBg, -, hcp, -, -, -⟩ := o2.out.form (by omega)
  have z2 := b2.out.size
  have z1 := B1.out.size
  have B2 := Lib.hid (B1.out.trans (b2.out.mono z1))
  clear b2 B1
  go_wp2_with fail
  refine (reverseS_any g n cap2 w1.heap.size cs _ o2.out (by omega) (by omega)).mono ?_
  rintro e w3 ⟨rfl, b3, o3⟩
  have B3 := Lib.hid (B2.out.trans (b3.out.mono z1))
  clear b3 o2 B2
  go_wp2_with fail
  refine (clipS_any (some ⟨g, 0, none⟩) n cap2 _ hcp).mono ?_
  rintro e _ ⟨rfl, rfl⟩
  have FIN := Lib.hid (slF_clip (o3.out.wr (by omega)).sl)
  go_wp2_with fail
  go_ret2
  exact ⟨_, rfl, B3, FIN⟩

theorem rowC {W : World} {g : Nat} (h : Row W g 41 #[.int .i64 0, .int .i64 0]) : W.cell? ⟨g, 0, none⟩ = some (.int .i64 0) ∧ W.cell? ⟨g, 1, none⟩ = some (.int .i64 0) := ⟨by rw [h.cell]; rfl, by rw [h.cell]; rfl⟩
theorem keepG1 {W wq w1 : World} {B : Nat} {a c : Addr} {x y : Value} (h : wq.cell? a = some x ∧ wq.cell? c = some y ∧ Below B W wq) (hB : B ≤ wq.heap.size) (b : Below wq.heap.size wq w1) : w1.cell? a = some x ∧ w1.cell? c = some y ∧ Below B W w1 :=
  ⟨cellB h.1 b, cellB h.2.1 b, h.2.2.trans (b.mono hB)⟩
theorem cell_set_nb {w : World} {g b k o : Nat} {u : Value} {x : Option Value} (h : g ≠ b) (hc : w.cell? ⟨b, o, none⟩ = x) : (w.setCell ⟨g, k, none⟩ u).cell? ⟨b, o, none⟩ = x :=
  (World.cell?_setCell_other (h := (fun e => h (by cases e; rfl) : (⟨g, k, none⟩ : Addr) ≠ ⟨b, o, none⟩)) ..).trans hc
theorem keepG2 {W wq : World} {B : Nat} {x y u v : Value} (h : wq.cell? ⟨B, 0, none⟩ = some x ∧ wq.cell? ⟨B, 1, none⟩ = some y ∧ Below B W wq) :
    ((wq.setCell ⟨B + 1, 0, none⟩ u).setCell ⟨B + 1, 1, none⟩ v).cell? ⟨B, 0, none⟩ = some x ∧ ((wq.setCell ⟨B + 1, 0, none⟩ u).setCell ⟨B + 1, 1, none⟩ v).cell? ⟨B, 1, none⟩ = some y ∧ Below B W ((wq.setCell ⟨B + 1, 0, none⟩ u).setCell ⟨B + 1, 1, none⟩ v) :=
  ⟨cell_set_nb (by omega) (cell_set_nb (by omega) h.1), cell_set_nb (by omega) (cell_set_nb (by omega) h.2.1), (h.2.2.setCell (p := ⟨B + 1, 0, none⟩) (by show B ≤ B + 1; omega) _).setCell (p := ⟨B + 1, 1, none⟩) (by show B ≤ B + 1; omega) _⟩
theorem drewB {w w' : World} (b : Below w.drew.heap.size w.drew w') : Below w.heap.size w w' := (below_drewN (Below.refl w.heap.size w) 1).trans b
set_option maxHeartbeats 4000000 in
/-- FaultBack of a fault. -/
theorem implFaultBack_b (v : Value) (m f : Int) (cs : List Int) (n hi : Nat) (w : World) (hv : SlF 3 w hi v cs n) (hf : fvB cs n m f = true) :
    Calls Try.prog 51 #[v, .agg #[.int .i64 m, .int .i64 f]] w fun e w' => e = .returned (.tuple #[.agg #[.int .i64 (mlTo cs n - m), .int .i64 f], .bool true]) ∧ Below w.heap.size w w' := by
  obtain ⟨b0, x0, x1⟩ := box2 w m f 41
  obtain ⟨c0, y0, y1⟩ := box2 (w.alloc (.cells #[.int .i64 m, .int .i64 f] 41)) 0 0 41
  have RW := Lib.hid (Row.new (w.alloc (.cells #[.int .i64 m, .int .i64 f] 41)) #[.int .i64 0, .int .i64 0] 41)
  rw [World.size_alloc] at RW
  have B0 := Lib.hid (nextW b0 c0)
  have V0 := Lib.hid ((hv.old b0).old c0)
  have X0 := Lib.hid (cellB x0 c0)
  have X1 := Lib.hid (cellB x1 c0)
  have HF := Lib.hid hf
  have hfc := fvB_cab hf
  have HM : Hid (milesI cs n = mlTo cs n) := Lib.hid (milesI_yes hfc.1)
  have hmb := milesI_bd (cs := cs) (n := n)
  rw [HM.out] at hmb
  obtain ⟨M, hM⟩ : ∃ M, mlTo cs n = M := ⟨_, rfl⟩
  rw [hM] at hmb HM hfc
  have hw : IntKind.i64.wrap (M - m) = M - m := IntWalk.i64_in _ (by omega)
  rw [hM]
  clear x0 x1 y0 y1 b0 c0 hf hM
  have x0 := X0.out
  have x1 := X1.out
  go_enter Try.func51, Try.ntmps51
  go_wp2_with fail
  refine (implFaultValid_is _ m f cs n _ _ V0.out HF.out).mono ?_
  rintro e w1 ⟨rfl, b1⟩
  clear x0 x1
  have B1 := Lib.hid (nextW B0.out b1)
  have V1 := Lib.hid (V0.out.old b1)
  have R1 := Lib.hid (RW.out.old b1)
  have x0 := cellB X0.out b1
  have x1 := cellB X1.out b1
  clear b1 B0 V0 RW X0 X1
  go_wp2_with fail
  have hz1 := B1.out.size
  have S0 := Lib.hid (And.intro x0 (And.intro x1 (below_drewN B1.out 1)))
  have V1d : Hid (SlF 3 w1.drew hi v cs n) := Lib.hid (show SlF 3 w1.drew hi v cs n from V1.out)
  clear x0 x1
  go_region_held3 (fun w' => w'.cell? ⟨w.heap.size, 0, none⟩ = some (.int .i64 m) ∧ w'.cell? ⟨w.heap.size, 1, none⟩ = some (.int .i64 f) ∧ Below w.heap.size w w')
    (first | assumption | exact S0.out | exact keepG1 (by assumption) (by assumption) (by assumption) | exact keepG2 (by assumption))
    (first | (go_at_call 42; refine (implMiles_is _ cs n _ _ V1d.out HM.out).mono ?_; rintro e wA ⟨rfl, bA⟩; (have r0 := R1.out.old (drewB bA)); (have d0 := (rowC r0).1); (have d1 := (rowC r0).2); (have f0 := r0.frozen 0); (have f1 := r0.frozen 1); (have RA := Lib.hid r0); (have BA := Lib.hid (nextW B1.out (drewB bA))); clear r0))
  all_goals
    go_wp2
    refine bodyPost_ret (results_cell2 rfl _ _ (w.heap.size + 1) _ _ rfl ((RA.out.set 0 _).set 1 _) fault_agg fault_size) rfl ?_
    exact ⟨rfl, (BA.out.setCell (p := ⟨w.heap.size + 1, 0, none⟩) (by show w.heap.size ≤ w.heap.size + 1; omega) _).setCell (p := ⟨w.heap.size + 1, 1, none⟩) (by show w.heap.size ≤ w.heap.size + 1; omega) _⟩

end Go.Proofs.Ytoanefccnbnkmaa
