/- Draws of chapter 4: l91Needs. -/
import Derived.Test.YthbkimojbbkeiaaSpDr
import Derived.Test.YthbkimojbbkeiaaSpFit
import Derived.Deep.RegionLaw
import Derived.Deep.Cut
namespace Go.Proofs.Ythbkimojbbkeiaa
open Go.RowKit

/-- A call of a Go function with two arguments as one step of a region that draws its order. -/
theorem step_call2 {ops : Array Oper} {o : Oper} {a : Act} {K : Act → World → Prop} {Q : Exit → Act → World → Prop} {E : Prop} {w : World} {ts : Array TypeId} {v1 v2 : Value} (F : FuncId) (x y : Operand) (hent : ∀ args W, Sem.run Try.prog (callFunc F args) W = .ok (.enter F args) W) (hgd : o.guard = none)
    (ho : o.op = .call { callee := .value (.func F), args := #[x, y], argTypes := ts }) (hx : a.eval x = v1) (hy : a.eval y = v2)
    (h : Calls Try.prog F #[v1, v2] w fun e w' => ∃ v, e = .returned v ∧ K (a.put o.dst v) w') :
    if Region.wanted o (yielded ops a.tmps) = true then Oper.wp Try.prog o a w K Q else E := by
  have hw : Region.wanted o (yielded ops a.tmps) = true := by simp [Region.wanted, hgd]
  rw [if_pos hw]
  have hrun : (execOp a.eval o).run Try.prog w = .ok (.enter F #[v1, v2]) w := by
    have hf : a.eval (Operand.func F) = .func (.func F) #[] #[] := rfl
    simp [execOp, ho, resolve, invoke, Deferred.ofValue, hx, hy, hf, hent]
  unfold Oper.wp
  rw [hrun]
  refine h.mono ?_
  rintro e w' ⟨v, rfl, hk⟩
  exact hk
theorem hentPick : ∀ (args : Array Value) (W : World), Sem.run Try.prog (callFunc 83 args) W = .ok (.enter 83 args) W := by
  intro args W
  rfl

/-- 'append(out, s)' as one step of a region that draws its order. -/
theorem step_pushP {ops : Array Oper} {o : Oper} {a : Act} {K : Act → World → Prop} {Q : Exit → Act → World → Prop} {E : Prop} {w : World} {B c g : Nat} {v : Value} {ys : List Int} {m f : Int} (s x : Operand) (hown : OwP w B v ys c) (hgd : o.guard = none)
    (ho : o.op = .call { callee := .builtin .append, args := #[s, x], argTypes := #[25, 25] })
    (hs : a.eval s = v) (hx : a.eval x = .slice (some ⟨g, 0, none⟩) 1 1) (hg : Row w g 35 #[.int .i64 m, .int .i64 f]) (hlen : c ≤ 1048576) (hB : B ≤ w.heap.size)
    (h : ∀ v' w', OwP w' B v' (ys ++ [m, f]) (c + 1) → Below B w w' → K (a.put o.dst v') w') :
    if Region.wanted o (yielded ops a.tmps) = true then Oper.wp Try.prog o a w K Q else E := by
  have hw : Region.wanted o (yielded ops a.tmps) = true := by simp [Region.wanted, hgd]
  rw [if_pos hw]
  obtain ⟨i, hi, hz, hsz, hb⟩ := info_parts infoSpareD
  refine wp_append_own w s x 25 ho B 35 i (.agg #[.int .i64 0, .int .i64 0]) 2 16 Try.underlying25 hi hz hsz hb rfl (by decide) v c _ hs hown ⟨g, 0, none⟩ 1 1 [.int .i64 m, .int .i64 f] hx rfl ?_ ?_ ?_ ?_ hB ?_
  · intro j u hj
    match j, hj with
    | 0, hj =>
      simp at hj; subst hj
      have := hg.cell 0
      simpa [Addr.add] using this
    | 1, hj =>
      simp at hj; subst hj
      have := hg.cell 1
      simpa [Addr.add] using this
  · intro u hu
    simp at hu
    rcases hu with rfl | rfl <;> rfl
  · unfold maxLen; omega
  · omega
  · intro v' w' h1 h2 _
    refine h v' w' ?_ ?_
    · unfold OwP
      rw [List.map_append]
      exact h1
    · exact (Below.refl B w).grown h2 hB (fun k hk => (hown.lt k hk).1)

theorem WrF.pick {s : Nat} {e : TypeId} {w w' : World} {lo hi n R : Nat} {v : Value} {cs : List Int} (h : WrF s e w lo hi v cs n) (o : Out R (R + 1) w w') (hR : R < lo) : WrF s e w' lo hi v cs n := h.out o (.inr (by omega))

theorem WrF.low {s : Nat} {e : TypeId} {w w' : World} {lo hi n B : Nat} {v : Value} {cs : List Int} (h : WrF s e w lo hi v cs n) (b : Below B w w') (hB : hi ≤ B) : WrF s e w' lo hi v cs n := h.of_block fun k _ _ hk => b.block k (by omega)

/-- What l91Needs leaves. -/
def NdD (w w' : World) (lo R p : Nat) (v1 v2 : Value) : Prop := ∃ cs n ds m p', p' ≤ p + 100 ∧ St w w' lo R p' ∧ WrF 2 35 w' w.heap.size w'.heap.size v1 cs n ∧ n ≤ 12 ∧ WrF 2 35 w' w.heap.size w'.heap.size v2 ds m ∧ m ≤ 4

set_option maxRecDepth 100000 in
set_option maxHeartbeats 4000000 in
theorem l91Needs_any (lo R p : Nat) (w : World) (hr : Rd w lo R p) (hp : p ≤ 900000) :
    Calls Try.prog 79 #[.pointer (some ⟨R, 0, none⟩)] w fun e w' => ∃ v1 v2, e = .returned (.tuple #[v1, v2]) ∧ Hid (NdD w w' lo R p v1 v2) := by
  have hRw := hr.lt
  go_enter Try.func79, Try.ntmps79
  go_wp2_with fail
  refine (l91Spares_any lo R p 6 w hr (by omega) (by omega)).mono ?_
  rintro e w1 ⟨v, rfl, hd⟩
  obtain ⟨cs, n, p1, hp1, st, wr, hn12⟩ := hd.out
  have hz1 := st.gr.size
  have bx := (Below.refl w1.heap.size w1).alloc (Nat.le_refl _) (.cells #[] 35)
  have ST1 := Lib.hid (st.below (bx.mono hz1))
  have WR1 := Lib.hid (wr.old bx)
  have OW1 := Lib.hid (OwP.empty w1 w1.heap.size (Nat.le_refl _))
  have HWR := Lib.hid wr
  obtain ⟨a1, cap1, rfl, -⟩ := wr
  clear hd st bx hr
  go_wp2_with fail
  refine (pick_any lo R p1 4 _ ST1.out.rd (by omega) (by omega) (by omega)).mono ?_
  rintro e w2 ⟨nn, rfl, hnn, d2, o2, z2⟩
  have ST2 := Lib.hid (ST1.out.pick d2 o2)
  have OW2 := Lib.hid (OW1.out.pick o2 (by omega))
  have WR2 := Lib.hid (WR1.out.pick o2 hRw)
  have hz2 : w1.heap.size ≤ w2.heap.size := by rw [z2]; simp
  clear d2 o2 z2 ST1 OW1 WR1
  go_wp2_with fail
  go_loopw [5, 7] (fun ov i wr => ∃ (k c : Nat) (o : List Int), k ≤ nn ∧ c ≤ k ∧ i = .int .i64 k ∧ Hid (OwP wr w1.heap.size ov o c) ∧ Hid (WrF 2 35 wr w.heap.size w1.heap.size (.slice a1 n cap1) cs n) ∧ Hid (St w wr lo R (p1 + 1 + 2 * k)) ∧ w1.heap.size ≤ wr.heap.size) (fun _ i _ => nn - (intOf i).toNat)
  case atStart => exact ⟨0, 0, [], Nat.zero_le _, Nat.le_refl _, rfl, OW2, WR2, ST2, hz2⟩
  case round =>
    clear OW2 WR2 ST2 hz2
    obtain ⟨k, c, o, hk, hck, rfl, hown, hwr, hst, hz⟩ := hrel
    obtain ⟨oa, ocap, rfl, hol⟩ := hown.out.form0
    have HOL := Lib.hid hol
    clear hol
    by_cases hgo : k < nn ∧ 0 < n
    · obtain ⟨hlt, hn0⟩ := hgo
      have hn0' : (0 : Int) < (n : Int) := by omega
      go_wp2_with fail
      refine (pick_any lo R (p1 + 1 + 2 * k) n _ hst.out.rd (by omega) (by omega) (by omega)).mono ?_
      rintro e w3 ⟨q, rfl, hq, d3, o3, z3⟩
      have ST3 := Lib.hid (hst.out.pick d3 o3)
      have OWN3 := Lib.hid (hown.out.pick o3 (by omega))
      have WR3 := Lib.hid (hwr.out.pick o3 hRw)
      have hz3 : w1.heap.size ≤ w3.heap.size := by omega
      clear d3 o3 z3 hst hown hwr
      obtain ⟨_, _, e2, _, _, _, _, hc1⟩ := WR3.out.sl
      cases e2
      obtain ⟨b1, off1, rfl, hb1, hc1⟩ := hc1 (by omega)
      obtain ⟨c0, c1⟩ := cellsS hc1 hq (Below.refl _ _) (World.block_lt_of_cell? w3 _ (hc1 (q * 2) (by omega)))
      clear hc1
      have hqn : (q : Int) < (n : Int) := by omega
      obtain ⟨bx, y0, y1⟩ := box2 w3 (smi cs q) (ski cs q) 35
      have ST4 := Lib.hid (ST3.out.below (bx.mono (by omega)))
      have OWN4 := Lib.hid (OWN3.out.below bx)
      have WR4 := Lib.hid (WR3.out.old bx)
      have hz4 : w1.heap.size ≤ (w3.alloc (.cells #[.int .i64 (smi cs q), .int .i64 (ski cs q)] 35)).heap.size := by simp; omega
      have YR := Lib.hid (Row.new w3 #[.int .i64 (smi cs q), .int .i64 (ski cs q)] 35)
      have hRg : w3.heap.size ≠ R := by omega
      clear bx ST3 OWN3 WR3
      go_upto_region 8 with (fail)
      clear c0 c1 y0 y1
      revert ST4 OWN4 WR4 hz4 YR
      generalize (w3.alloc (.cells #[.int .i64 (smi cs q), .int .i64 (ski cs q)] 35)) = w4
      generalize smi cs q = sm
      generalize ski cs q = sk
      intro ST4 OWN4 WR4 hz4 YR
      have k0 := (YR.out.cell 0).trans (show _ = some (Value.int .i64 sm) from rfl)
      have k1 := (YR.out.cell 1).trans (show _ = some (Value.int .i64 sk) from rfl)
      have PK := Lib.hid fun W h => pick_any lo R (p1 + 1 + 2 * k + 1) 5 W h (by omega) (by omega) (by omega)
      go_region_law (first | (refine step_call2 83 (.tmp 34) (.const (.int .i64 5)) hentPick rfl rfl rfl rfl ?_; refine (PK.out _ (ST4.out.rd.drewN 1)).mono ?_; rintro e w5 ⟨q5, rfl, hq5, d5, o5, z5⟩; refine ⟨_, rfl, ?_⟩; have ST5 := Lib.hid ((ST4.out.below (Below.refl _ w4).drew).pick d5 o5); have OWN5 := Lib.hid ((show OwP (w4.drewN 1) _ _ _ _ from OWN4.out).pick o5 (by omega)); have WR5 := Lib.hid ((show WrF 2 35 (w4.drewN 1) _ _ _ _ _ from WR4.out).pick o5 hRw); have j1 := (((show Row (w4.drewN 1) _ _ _ from YR.out).pick o5 hRg).cell 1).trans (show _ = some (Value.int .i64 sk) from rfl); have j0 := (((show Row (w4.drewN 1) _ _ _ from YR.out).pick o5 hRg).cell 0).trans (show _ = some (Value.int .i64 sm) from rfl); have hz5 : w1.heap.size ≤ w5.heap.size := Nat.le_trans hz4 o5.size; clear d5 o5 z5) | (refine step_pushP (.tmp 31) (.tmp 41) (OWN5.out.below ((Below.refl _ w5).alloc (Nat.le_refl _) _)) rfl rfl rfl rfl (Row.new _ _ _) (by omega) (Nat.le_trans hz5 ((Below.refl _ w5).alloc (Nat.le_refl _) _).size) ?_; intro v7 w7 ow7 b7; have BX5 := (Below.refl w5.heap.size w5).alloc (Nat.le_refl _) (.cells #[.int .i64 (if 1 < IntKind.i64.wrap (sm - (q5 : Int)) then IntKind.i64.wrap (sm - (q5 : Int)) else 1), .int .i64 sk] 35); have BX6 := b7; have OW7 := Lib.hid ow7; clear ow7))
      all_goals
        have BT := Lib.hid ((BX5.mono hz5).trans BX6)
        clear BX5 BX6 b7 k0 k1 j0 j1
        have ST7 := Lib.hid (ST5.out.below (BT.out.mono hz1))
        have WR7 := Lib.hid (WR5.out.low BT.out (Nat.le_refl _))
        have hz7 := Nat.le_trans hz5 BT.out.size
        go_wp2_with fail
        go_roundw
        case rel => exact ⟨k + 1, c + 1, _, by omega, by omega, by go_num, OW7, WR7, Lib.hid (by have := ST7.out; rwa [show p1 + 1 + 2 * (k + 1) = p1 + 1 + 2 * k + 1 + 1 by omega]), hz7⟩
        case measure => simp [intOf]; omega
    · have hfin : Hid (∀ (W : World) (P c' : Nat) (o' : List Int) (oa' : Option Addr) (oc' : Nat), P ≤ p1 + 20 → c' ≤ 4 → St w W lo R P → OwP W w1.heap.size (.slice oa' c' oc') o' c' → WrF 2 35 W w.heap.size w1.heap.size (.slice a1 n cap1) cs n → w1.heap.size ≤ W.heap.size → NdD w W lo R p (.slice a1 n cap1) (.slice oa' c' oc')) := Lib.hid fun W P c' o' oa' oc' h1 h2 h3 h4 h5 h6 =>
        ⟨cs, n, o', c', P, by omega, h3, h5.mono (Nat.le_refl _) h6, hn12, (h4.wr (by omega)).mono hz1 (Nat.le_refl _), h2⟩
      have hcond : Hid (nn ≤ k ∨ n = 0) := Lib.hid (by omega)
      by_cases hc0 : 0 < c
      · obtain ⟨g, cap, e9, hgB, hgw, hcp, hcp2, hcs, hfz⟩ := hown.out.form hc0
        cases e9
        have hc00 : (0 : Int) < (c : Int) := by omega
        have hnn0 : (0 : Int) < (nn : Int) := by omega
        by_cases hlt : k < nn
        · obtain rfl : n = 0 := by omega
          clear hcs hfz
          go_wp2_with fail
          refine (pick_any lo R (p1 + 1 + 2 * k) 20 _ hst.out.rd (by omega) (by omega) (by omega)).mono ?_
          rintro e w3 ⟨q, rfl, hq, d3, o3, z3⟩
          have ST3 := Lib.hid (hst.out.pick d3 o3)
          have OWN3 := Lib.hid (hown.out.pick o3 (by omega))
          have WR3 := Lib.hid (hwr.out.pick o3 hRw)
          have hz3 : w1.heap.size ≤ w3.heap.size := by omega
          clear d3 o3 z3 hst hown hwr
          by_cases hq0 : q = 0
          · subst hq0
            obtain ⟨_, _, e9, -, -, -, -, hcs, hfz⟩ := OWN3.out.form hc0
            cases e9
            have k0 := hcs 0 (by omega)
            have f0 := hfz 0
            have bs := (Below.refl w1.heap.size w3).setCell (p := ⟨g, 0, none⟩) hgB (.int .i64 0)
            have HF := Lib.hid (hfin.out _ _ _ _ _ _ (by omega : p1 + 1 + 2 * k + 1 ≤ p1 + 20) (by omega : c ≤ 4) (ST3.out.below (bs.mono hz1)) (OWN3.out.set 0 0) (WR3.out.low bs (Nat.le_refl _)) (by simpa [World.setCell] using hz3))
            clear hcs hfz bs
            go_wp2_with fail
            go_ret2
            exact ⟨_, _, rfl, HF⟩
          · have e0 : ((q : Int) == 0) = false := by simp; omega
            have HF := Lib.hid (hfin.out _ _ _ _ _ _ (by omega : p1 + 1 + 2 * k + 1 ≤ p1 + 20) (by omega : c ≤ 4) ST3.out OWN3.out WR3.out hz3)
            go_wp2_with fail
            go_ret2
            exact ⟨_, _, rfl, HF⟩
        · clear hcs hfz
          go_wp2_with fail
          refine (pick_any lo R (p1 + 1 + 2 * k) 20 _ hst.out.rd (by omega) (by omega) (by omega)).mono ?_
          rintro e w3 ⟨q, rfl, hq, d3, o3, z3⟩
          have ST3 := Lib.hid (hst.out.pick d3 o3)
          have OWN3 := Lib.hid (hown.out.pick o3 (by omega))
          have WR3 := Lib.hid (hwr.out.pick o3 hRw)
          have hz3 : w1.heap.size ≤ w3.heap.size := by omega
          clear d3 o3 z3 hst hown hwr
          by_cases hq0 : q = 0
          · subst hq0
            obtain ⟨_, _, e9, -, -, -, -, hcs, hfz⟩ := OWN3.out.form hc0
            cases e9
            have k0 := hcs 0 (by omega)
            have f0 := hfz 0
            have bs := (Below.refl w1.heap.size w3).setCell (p := ⟨g, 0, none⟩) hgB (.int .i64 0)
            have HF := Lib.hid (hfin.out _ _ _ _ _ _ (by omega : p1 + 1 + 2 * k + 1 ≤ p1 + 20) (by omega : c ≤ 4) (ST3.out.below (bs.mono hz1)) (OWN3.out.set 0 0) (WR3.out.low bs (Nat.le_refl _)) (by simpa [World.setCell] using hz3))
            clear hcs hfz bs
            go_wp2_with fail
            go_ret2
            exact ⟨_, _, rfl, HF⟩
          · have e0 : ((q : Int) == 0) = false := by simp; omega
            have HF := Lib.hid (hfin.out _ _ _ _ _ _ (by omega : p1 + 1 + 2 * k + 1 ≤ p1 + 20) (by omega : c ≤ 4) ST3.out OWN3.out WR3.out hz3)
            go_wp2_with fail
            go_ret2
            exact ⟨_, _, rfl, HF⟩
      · obtain rfl : c = 0 := by omega
        have HF := Lib.hid (hfin.out _ _ _ _ _ _ (by omega : p1 + 1 + 2 * k ≤ p1 + 20) (by omega : 0 ≤ 4) hst.out hown.out hwr.out hz)
        by_cases hlt : k < nn
        · obtain rfl : n = 0 := by omega
          have hnn0 : (0 : Int) < (nn : Int) := by omega
          go_wp2_with fail
          go_ret2
          exact ⟨_, _, rfl, HF⟩
        · by_cases hnn0 : 0 < nn
          · have hnn1 : (0 : Int) < (nn : Int) := by omega
            go_wp2_with fail
            go_ret2
            exact ⟨_, _, rfl, HF⟩
          · obtain rfl : nn = 0 := by omega
            obtain rfl : k = 0 := by omega
            go_wp2_with fail
            go_ret2
            exact ⟨_, _, rfl, HF⟩

end Go.Proofs.Ythbkimojbbkeiaa
