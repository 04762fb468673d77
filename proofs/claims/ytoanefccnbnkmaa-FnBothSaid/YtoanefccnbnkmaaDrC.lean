/- Draws of chapter 3: l91Cable. -/
import Derived.Test.YtoanefccnbnkmaaRd
import Derived.Test.YtoanefccnbnkmaaFlat
namespace Go.Proofs.Ytoanefccnbnkmaa
open Go.RowKit

theorem grow2 {a b c : World} {r : Option Nat} (h : a.grownBy b r) (k : b.grownBy c r) : a.grownBy c r :=
  ⟨k.os.trans h.os, k.tape.trans h.tape, k.output.trans h.output, Nat.le_trans h.size k.size, fun i hi hr => (k.block i (Nat.lt_of_lt_of_le hi h.size) hr).trans (h.block i hi hr)⟩
/-- The reader stands at p, and only its block and new ones have turned since w0. -/
structure St (w0 w : World) (lo R p : Nat) : Prop where
  rd : Rd w lo R p
  gr : w0.grownBy w (some R)
  old : R < w0.heap.size
theorem St.start {w : World} {lo R p : Nat} (h : Rd w lo R p) : St w w lo R p := ⟨h, ⟨rfl, rfl, rfl, Nat.le_refl _, fun _ _ _ => rfl⟩, h.lt⟩
theorem Out.grow {w w' : World} {R : Nat} (h : Out R (R + 1) w w') : w.grownBy w' (some R) := ⟨h.os, h.tape, h.output, h.size, fun k hk hr => h.block k hk (by have : k ≠ R := fun e => hr (by rw [e]); omega)⟩
theorem St.pick {w0 w w' : World} {lo R p p' : Nat} (h : St w0 w lo R p) (hr : Rd w' lo R p') (ho : Out R (R + 1) w w') : St w0 w' lo R p' := ⟨hr, grow2 h.gr ho.grow, h.old⟩
theorem St.below {w0 w w' : World} {lo R p : Nat} (h : St w0 w lo R p) (hb : Below w0.heap.size w w') : St w0 w' lo R p :=
  ⟨h.rd.kept fun k hk => hb.block k (by have := h.old; omega), ⟨hb.os.trans h.gr.os, hb.tape.trans h.gr.tape, hb.output.trans h.gr.output, Nat.le_trans h.gr.size hb.size, fun k hk hr => (hb.block k hk).trans (h.gr.block k hk hr)⟩, h.old⟩
theorem St.next {w0 w1 w2 : World} {lo R p q : Nat} (h : St w0 w1 lo R p) (k : St w1 w2 lo R q) : St w0 w2 lo R q := ⟨k.rd, grow2 h.gr k.gr, h.old⟩
theorem Row.pick {w w' : World} {g R : Nat} {e : TypeId} {cur : Array Value} (h : Row w g e cur) (o : Out R (R + 1) w w') (hd : g ≠ R) : Row w' g e cur := (o.block g h.lt (by omega)).trans h

/-- v is a cable of the call's own (blocks from B on) that reads as ys, c sections. -/
def OwS (w : World) (B : Nat) (v : Value) (ys : List Int) (c : Nat) : Prop := w.ownsRow B 76 3 v c (ys.map (Value.int .i64))
theorem OwS.empty (w : World) (B : Nat) (hB : B ≤ w.heap.size) : OwS (w.alloc (.cells #[] 76)) B (.slice (some ⟨w.heap.size, 0, none⟩) 0 0) [] 0 :=
  World.ownsRow_made w #[] 0 hB (by unfold maxLen; omega) rfl
theorem OwS.below {w w' : World} {B c : Nat} {v : Value} {ys : List Int} (h : OwS w B v ys c) (hb : Below w.heap.size w w') : OwS w' B v ys c :=
  h.kept (row := none) ⟨hb.os, hb.tape, hb.output, hb.size, fun k hk _ => hb.block k hk⟩ (by cases hv : v.ownBlock <;> simp)
theorem OwS.pick {w w' : World} {B R c : Nat} {v : Value} {ys : List Int} (h : OwS w B v ys c) (ho : Out R (R + 1) w w') (hR : R < B) : OwS w' B v ys c :=
  World.ownsRow.kept h ho.grow (.inr fun e => by have := (h.lt R e).1; omega)
theorem OwS.wr {w : World} {B c : Nat} {v : Value} {ys : List Int} (h : OwS w B v ys c) (hn : c ≤ 1048576) : WrF 3 76 w B w.heap.size v ys c := WrF.of_own h hn
theorem OwS.form {w : World} {B c : Nat} {v : Value} {ys : List Int} (h : OwS w B v ys c) (hn : 0 < c) :
    ∃ g cap, v = .slice (some ⟨g, 0, none⟩) c cap ∧ B ≤ g ∧ g < w.heap.size ∧ c ≤ cap ∧ cap ≤ 9223372036854775807 ∧ (∀ k, k < c * 3 → w.cell? ⟨g, k, none⟩ = some (.int .i64 (gi ys k))) ∧ ∀ k, w.frozen? ⟨g, k, none⟩ = false := by
  obtain ⟨hl, hv⟩ := h
  have hln : ys.length = c * 3 := by simpa using hl
  rcases hv with ⟨_, h0⟩ | ⟨g, cap, cur, rfl, hB, hg, hc1, hc2, hc3, hc4⟩
  · omega
  · refine ⟨g, cap, rfl, hB, (Array.getElem?_eq_some_iff.1 hg).1, hc1, by unfold maxLen at hc2; omega, fun k hk => ?_, fun k => frozen_of_row w g k cur _ hg⟩
    rw [cell_of_row w g k cur _ (0, 0) hg]
    have : (cur.toList.take (c * 3))[k]? = some (.int .i64 (gi ys k)) := by
      rw [hc4, List.getElem?_map]
      have : k < ys.length := by omega
      simp [gi, this]
    rw [List.getElem?_take, if_pos hk] at this
    simpa using this
theorem OwS.set {w : World} {B g n c cap : Nat} {ys : List Int} (h : OwS w B (.slice (some ⟨g, 0, none⟩) n cap) ys c) (k : Nat) (u : Int) :
    OwS (w.setCell ⟨g, k, none⟩ (.int .i64 u)) B (.slice (some ⟨g, 0, none⟩) n cap) (ys.set k u) c := by
  obtain ⟨hl, hv⟩ := h
  refine ⟨by simpa using hl, ?_⟩
  rcases hv with ⟨e, _⟩ | ⟨g', cap', cur, e, hB, hg, hc1, hc2, hc3, hc4⟩
  · cases e
  · cases e
    refine .inr ⟨g, cap, _, rfl, hB, heap_setCell_same w g k cur _ (.int .i64 u) hg, by simpa using hc1, hc2, by simpa using hc3, ?_⟩
    rw [Array.toList_setIfInBounds, List.take_set, hc4, List.map_set]

theorem infoSection2 : (Try.prog.info? 76).map (fun i => (i.zero, i.size, i.bytes)) = some (some (.agg #[.int .i64 0, .int .i64 0, .int .i64 0]), 3, 24) := by kernel_rfl
/-- 'out = append(out, s)'. -/
theorem wpList_pushS {ops : Array Oper} {rest : List Oper} {o : Oper} {a : Act} {Q : Exit → Act → World → Prop} {w : World} {B c : Nat} {v : Value} {ys : List Int} {m f r : Int} {s x : Operand} (hown : OwS w B v ys c) (hgd : o.guard = none)
    (ho : o.op = .call { callee := .builtin .append, args := #[s, x], argTypes := #[29, 29] })
    (hs : a.eval s = v) (hx : a.eval x = .slice (some ⟨w.heap.size, 0, none⟩) 1 1) (hlen : c ≤ 1048576) (hB : B ≤ w.heap.size)
    (h : ∀ v' w', OwS w' B v' (ys ++ [m, f, r]) (c + 1) → Below B w w' → wpList Try.prog ops Q rest (a.put o.dst v') w') :
    wpList Try.prog ops Q (o :: rest) a (w.alloc (.cells #[.int .i64 m, .int .i64 f, .int .i64 r] 76)) := by
  obtain ⟨i, hi, hz, hsz, hb⟩ := info_parts infoSection2
  refine wpList_append_own (w := w.alloc (.cells #[.int .i64 m, .int .i64 f, .int .i64 r] 76)) hgd s x 29 ho B 76 i (.agg #[.int .i64 0, .int .i64 0, .int .i64 0]) 3 24 Try.underlying29 hi hz hsz hb rfl (by decide) v c _ hs (hown.alloc _)
    ⟨w.heap.size, 0, none⟩ 1 1 [.int .i64 m, .int .i64 f, .int .i64 r] hx rfl ?_ ?_ ?_ ?_ ?_ ?_
  · intro j u hj
    match j, hj with
    | 0, hj => simp at hj; subst hj; simp [Addr.add]
    | 1, hj => simp at hj; subst hj; simp [Addr.add]
    | 2, hj => simp at hj; subst hj; simp [Addr.add]
  · intro u hu
    simp at hu
    rcases hu with rfl | rfl | rfl <;> rfl
  · unfold maxLen; omega
  · omega
  · simp; omega
  · intro v' w' h1 h2 _
    refine h v' w' ?_ ?_
    · unfold OwS
      rw [List.map_append]
      exact h1
    · exact ((Below.refl B w).alloc hB _).grown h2 (by simp; omega) (fun k hk => (hown.lt k hk).1)

/-- What l91Cable leaves. -/
def CabD (w w' : World) (lo R p : Nat) (v : Value) : Prop := ∃ cs n p', p' ≤ p + 60 ∧ St w w' lo R p' ∧ WrF 3 76 w' w.heap.size w'.heap.size v cs n ∧ n ≤ 13

set_option maxRecDepth 100000 in
set_option maxHeartbeats 2000000 in
theorem l91Cable_any (lo R p most : Nat) (w : World) (hr : Rd w lo R p) (hp : p ≤ 900000) (hm : 1 ≤ most ∧ most ≤ 12) :
    Calls Try.prog 75 #[.pointer (some ⟨R, 0, none⟩), .int .i64 (most : Int)] w fun e w' => ∃ v, e = .returned v ∧ Hid (CabD w w' lo R p v) := by
  have hRw := hr.lt
  have hb0 : Below w.heap.size w (w.alloc (.cells #[] 76)) := (Below.refl _ w).alloc (Nat.le_refl _) _
  have HS0 := Lib.hid ((St.start hr).below hb0)
  have HO0 := Lib.hid (OwS.empty w w.heap.size (Nat.le_refl _))
  clear hb0 hr
  go_enter Try.func75, Try.ntmps75
  go_wp2_with fail
  refine (pick_any lo R p most _ HS0.out.rd (by omega) hm.1 (by omega)).mono ?_
  rintro e w1 ⟨n, rfl, hn, d1, o1, z1⟩
  have ST := Lib.hid (HS0.out.pick d1 o1)
  have OWN := Lib.hid (HO0.out.pick o1 (by omega))
  have hzz : w.heap.size ≤ w1.heap.size := by rw [z1]; simp
  clear d1 o1 HS0 HO0 z1
  go_wp2
  go_loopw [5, 7] (fun ov i wr => ∃ (k : Nat) (o : List Int), k ≤ n + 1 ∧ i = .int .i64 k ∧ Hid (OwS wr w.heap.size ov o k) ∧ Hid (St w wr lo R (p + 1 + 3 * k)) ∧ w.heap.size ≤ wr.heap.size) (fun _ i _ => n + 1 - (intOf i).toNat)
  case atStart => exact ⟨0, [], Nat.zero_le _, rfl, OWN, ST, hzz⟩
  case round =>
    clear OWN ST hzz
    obtain ⟨k, o, hk, rfl, hown, hst, hz⟩ := hrel
    by_cases hlt : k < n + 1
    · go_wp2_with fail
      refine (pick_any lo R (p + 1 + 3 * k) 9 _ hst.out.rd (by omega) (by omega) (by omega)).mono ?_
      rintro e w2 ⟨q1, rfl, hq1, d2, o2, z2⟩
      have ST2 := Lib.hid (hst.out.pick d2 o2)
      have OWN2 := Lib.hid (hown.out.pick o2 (by omega))
      have hz2 : w.heap.size ≤ w2.heap.size := by omega
      clear d2 o2 hst hown z2
      go_wp2_with fail
      refine (pick_any lo R (p + 1 + 3 * k + 1) 3 _ ST2.out.rd (by omega) (by omega) (by omega)).mono ?_
      rintro e w3 ⟨q2, rfl, hq2, d3, o3, z3⟩
      have ST3 := Lib.hid (ST2.out.pick d3 o3)
      have OWN3 := Lib.hid (OWN2.out.pick o3 (by omega))
      have hz3 : w.heap.size ≤ w3.heap.size := by omega
      clear d3 o3 ST2 OWN2 z3
      go_wp2_with fail
      refine (pick_any lo R (p + 1 + 3 * k + 1 + 1) 4 _ ST3.out.rd (by omega) (by omega) (by omega)).mono ?_
      rintro e w4 ⟨q3, rfl, hq3, d4, o4, z4⟩
      have ST4 := Lib.hid (ST3.out.pick d4 o4)
      have OWN4 := Lib.hid (OWN3.out.pick o4 (by omega))
      have hz4 : w.heap.size ≤ w4.heap.size := by omega
      clear d4 o4 ST3 OWN3 z4
      go_wp2_with (at_builtin; go_loud (refine wpList_pushS OWN4.out (by rfl) (by rfl) (by rfl) (by rfl) (by omega) hz4 ?_); intro v' w5 hown5 hb5; have HO5 := Lib.hid hown5; have HB5 := Lib.hid hb5; clear hown5 hb5)
      go_roundw
      case rel => exact ⟨k + 1, _, by omega, by go_num, HO5, Lib.hid (by have := ST4.out.below HB5.out; rwa [show p + 1 + 3 * (k + 1) = p + 1 + 3 * k + 1 + 1 + 1 by omega]), Nat.le_trans hz4 HB5.out.size⟩
      case measure => simp [intOf]; omega
    · obtain rfl : k = n + 1 := by omega
      obtain ⟨g, cap, rfl, hgB, hgw, hcp, hcp2, hcs, hfz⟩ := hown.out.form (by omega)
      go_wp2_with fail
      refine (pick_any lo R (p + 1 + 3 * (n + 1)) 40 _ hst.out.rd (by omega) (by omega) (by omega)).mono ?_
      rintro e w2 ⟨q, rfl, hq, d2, o2, z2⟩
      have ST2 := Lib.hid (hst.out.pick d2 o2)
      have OWN2 := Lib.hid (hown.out.pick o2 (by omega))
      have hz2 : w.heap.size ≤ w2.heap.size := by omega
      clear d2 o2 hst hown hcs hfz z2
      by_cases h0 : q = 0
      · subst h0
        have bx := (Below.refl w2.heap.size w2).alloc (Nat.le_refl _) (.cells #[.int .i64 (0), .int .i64 (51), .int .i64 (50)] 3)
        have ST3 := Lib.hid (ST2.out.below (bx.mono hz2))
        have OWN3 := Lib.hid (OWN2.out.below bx)
        have ROW := Lib.hid (Row.new w2 #[.int .i64 (0), .int .i64 (51), .int .i64 (50)] 3)
        clear bx ST2 OWN2
        go_wp2_with fail
        refine (pick_any lo R (p + 1 + 3 * (n + 1) + 1) 3 _ ST3.out.rd (by omega) (by omega) (by omega)).mono ?_
        rintro e w3 ⟨t, rfl, ht, d3, o3, z3⟩
        have row := ROW.out.pick o3 (by omega)
        have ST4 := Lib.hid (ST3.out.pick d3 o3)
        have OWN4 := Lib.hid (OWN3.out.pick o3 (by omega))
        have hz3 : w.heap.size ≤ w3.heap.size := by rw [z3]; simp; omega
        obtain ⟨u, hu⟩ : ∃ u : Int, w3.cell? ⟨w2.heap.size, t, none⟩ = some (.int .i64 u) := by
          rw [row.cell]
          match t, ht with
          | 0, _ => exact ⟨_, rfl⟩
          | 1, _ => exact ⟨_, rfl⟩
          | 2, _ => exact ⟨_, rfl⟩
        obtain ⟨g', cap', e', -, -, -, -, hcs, hfz⟩ := OWN4.out.form (by omega)
        cases e'
        have hc0 := hcs 0 (by omega)
        have hf0 := hfz 0
        have ht2 : (t : Int) < 3 := by omega
        clear row d3 o3 z3 ST3 OWN3 ROW hcs hfz
        go_wp2
        go_ret
        exact ⟨_, rfl, Lib.hid ⟨_, n + 1, _, (by omega : p + 1 + 3 * (n + 1) + 1 + 1 ≤ p + 60), ST4.out.below ((Below.refl _ _).setCell (p := ⟨g, 0, none⟩) hgB _), (OWN4.out.set 0 u).wr (by omega), by omega⟩⟩
      by_cases h1 : q = 1
      · subst h1
        have bx := (Below.refl w2.heap.size w2).alloc (Nat.le_refl _) (.cells #[.int .i64 (-1), .int .i64 (4)] 3)
        have ST3 := Lib.hid (ST2.out.below (bx.mono hz2))
        have OWN3 := Lib.hid (OWN2.out.below bx)
        have ROW := Lib.hid (Row.new w2 #[.int .i64 (-1), .int .i64 (4)] 3)
        clear bx ST2 OWN2
        go_wp2_with fail
        refine (pick_any lo R (p + 1 + 3 * (n + 1) + 1) 2 _ ST3.out.rd (by omega) (by omega) (by omega)).mono ?_
        rintro e w3 ⟨t, rfl, ht, d3, o3, z3⟩
        have row := ROW.out.pick o3 (by omega)
        have ST4 := Lib.hid (ST3.out.pick d3 o3)
        have OWN4 := Lib.hid (OWN3.out.pick o3 (by omega))
        have hz3 : w.heap.size ≤ w3.heap.size := by rw [z3]; simp; omega
        obtain ⟨u, hu⟩ : ∃ u : Int, w3.cell? ⟨w2.heap.size, t, none⟩ = some (.int .i64 u) := by
          rw [row.cell]
          match t, ht with
          | 0, _ => exact ⟨_, rfl⟩
          | 1, _ => exact ⟨_, rfl⟩
        obtain ⟨g', cap', e', -, -, -, -, hcs, hfz⟩ := OWN4.out.form (by omega)
        cases e'
        have hc0 := hcs 1 (by omega)
        have hf0 := hfz 1
        have ht2 : (t : Int) < 2 := by omega
        clear row d3 o3 z3 ST3 OWN3 ROW hcs hfz
        go_wp2
        go_ret
        exact ⟨_, rfl, Lib.hid ⟨_, n + 1, _, (by omega : p + 1 + 3 * (n + 1) + 1 + 1 ≤ p + 60), ST4.out.below ((Below.refl _ _).setCell (p := ⟨g, 1, none⟩) hgB _), (OWN4.out.set 1 u).wr (by omega), by omega⟩⟩
      by_cases h2 : q = 2
      · subst h2
        have bx := (Below.refl w2.heap.size w2).alloc (Nat.le_refl _) (.cells #[.int .i64 (0), .int .i64 (21), .int .i64 (20)] 3)
        have ST3 := Lib.hid (ST2.out.below (bx.mono hz2))
        have OWN3 := Lib.hid (OWN2.out.below bx)
        have ROW := Lib.hid (Row.new w2 #[.int .i64 (0), .int .i64 (21), .int .i64 (20)] 3)
        clear bx ST2 OWN2
        go_wp2_with fail
        refine (pick_any lo R (p + 1 + 3 * (n + 1) + 1) 3 _ ST3.out.rd (by omega) (by omega) (by omega)).mono ?_
        rintro e w3 ⟨t, rfl, ht, d3, o3, z3⟩
        have row := ROW.out.pick o3 (by omega)
        have ST4 := Lib.hid (ST3.out.pick d3 o3)
        have OWN4 := Lib.hid (OWN3.out.pick o3 (by omega))
        have hz3 : w.heap.size ≤ w3.heap.size := by rw [z3]; simp; omega
        obtain ⟨u, hu⟩ : ∃ u : Int, w3.cell? ⟨w2.heap.size, t, none⟩ = some (.int .i64 u) := by
          rw [row.cell]
          match t, ht with
          | 0, _ => exact ⟨_, rfl⟩
          | 1, _ => exact ⟨_, rfl⟩
          | 2, _ => exact ⟨_, rfl⟩
        obtain ⟨g', cap', e', -, -, -, -, hcs, hfz⟩ := OWN4.out.form (by omega)
        cases e'
        have hc0 := hcs 2 (by omega)
        have hf0 := hfz 2
        have ht2 : (t : Int) < 3 := by omega
        clear row d3 o3 z3 ST3 OWN3 ROW hcs hfz
        go_wp2
        go_ret
        exact ⟨_, rfl, Lib.hid ⟨_, n + 1, _, (by omega : p + 1 + 3 * (n + 1) + 1 + 1 ≤ p + 60), ST4.out.below ((Below.refl _ _).setCell (p := ⟨g, 2, none⟩) hgB _), (OWN4.out.set 2 u).wr (by omega), by omega⟩⟩
      by_cases h3 : q = 3
      · subst h3
        have bx := (Below.refl w2.heap.size w2).alloc (Nat.le_refl _) (.cells #[] 76)
        have ST3 := Lib.hid (ST2.out.below (bx.mono hz2))
        have OWN3 := Lib.hid (OwS.empty w2 w.heap.size hz2)
        clear bx
        go_wp2
        go_ret
        exact ⟨_, rfl, Lib.hid ⟨_, 0, _, (by omega : p + 1 + 3 * (n + 1) + 1 ≤ p + 60), ST3.out, OWN3.out.wr (by omega), by omega⟩⟩
      · have e0 : ((q : Int) == 0) = false := by simp; omega
        have e1 : ((q : Int) == 1) = false := by simp; omega
        have e2 : ((q : Int) == 2) = false := by simp; omega
        have e3 : ((q : Int) == 3) = false := by simp; omega
        go_wp2
        go_ret
        exact ⟨_, rfl, Lib.hid ⟨_, n + 1, _, (by omega : p + 1 + 3 * (n + 1) + 1 ≤ p + 60), ST2.out, OWN2.out.wr (by omega), by omega⟩⟩

end Go.Proofs.Ytoanefccnbnkmaa
