/- Spares of the call's own; draws of chapter 4: l91Spares. -/
import Derived.Test.YthbkimojbbkeiaaDoorRd
import Derived.Test.YthbkimojbbkeiaaDoorFlatSpare
import Derived.Test.YthbkimojbbkeiaaDoorSp
import Derived.Test.YthbkimojbbkeiaaDoorOwI
namespace Go.Proofs.YthbkimojbbkeiaaDoor
open Go.RowKit

/-- The reader stands at p, and only its block and new ones have turned since w0. -/
structure St (w0 w : World) (lo R p : Nat) : Prop where
  rd : Rd w lo R p
  gr : w0.grownBy w (some R)
  old : R < w0.heap.size
theorem St.start {w : World} {lo R p : Nat} (h : Rd w lo R p) : St w w lo R p := ⟨h, ⟨rfl, rfl, rfl, Nat.le_refl _, fun _ _ _ => rfl⟩, h.lt⟩
theorem Out.grow {w w' : World} {R : Nat} (h : Out R (R + 1) w w') : w.grownBy w' (some R) := ⟨h.os, h.tape, h.output, h.size, fun k hk hr => h.block k hk (by have : k ≠ R := fun e => hr (by rw [e]); omega)⟩
theorem St.pick {w0 w w' : World} {lo R p p' : Nat} (h : St w0 w lo R p) (hr : Rd w' lo R p') (ho : Out R (R + 1) w w') : St w0 w' lo R p' := ⟨hr, grow2 h.gr ho.grow, h.old⟩
theorem St.below {w0 w w' : World} {lo R p : Nat} (h : St w0 w lo R p) (hb : Below w0.heap.size w w') : St w0 w' lo R p :=
  ⟨h.rd.kept fun k hk => hb.block k (by have := h.old; omega), ⟨hb.os.trans h.gr.os, hb.tape.trans h.gr.tape, hb.output.trans h.gr.output, Nat.le_trans h.gr.size hb.size, fun k hk hr => (hb.block k hk).trans (h.gr.block k hk hr)⟩, h.old⟩
theorem St.next {w0 w1 w2 : World} {lo R p q : Nat} (h : St w0 w1 lo R p) (k : St w1 w2 lo R q) : St w0 w2 lo R q := ⟨k.rd, grow2 h.gr k.gr, h.old⟩
theorem Row.pick {w w' : World} {g R : Nat} {e : TypeId} {cur : Array Value} (h : Row w g e cur) (o : Out R (R + 1) w w') (hd : g ≠ R) : Row w' g e cur := (o.block g h.lt (by omega)).trans h

/-- v is a list of spares of the call's own (blocks from B on) that reads as ys, c of them. -/
def OwP (w : World) (B : Nat) (v : Value) (ys : List Int) (c : Nat) : Prop := w.ownsRow B 30 2 v c (ys.map (Value.int .i64))
theorem OwP.empty (w : World) (B : Nat) (hB : B ≤ w.heap.size) : OwP (w.alloc (.cells #[] 30)) B (.slice (some ⟨w.heap.size, 0, none⟩) 0 0) [] 0 :=
  World.ownsRow_made w #[] 0 hB (by unfold maxLen; omega) rfl
theorem OwP.below {w w' : World} {B c : Nat} {v : Value} {ys : List Int} (h : OwP w B v ys c) (hb : Below w.heap.size w w') : OwP w' B v ys c :=
  h.kept (row := none) ⟨hb.os, hb.tape, hb.output, hb.size, fun k hk _ => hb.block k hk⟩ (by cases hv : v.ownBlock <;> simp)
theorem OwP.pick {w w' : World} {B R c : Nat} {v : Value} {ys : List Int} (h : OwP w B v ys c) (ho : Out R (R + 1) w w') (hR : R < B) : OwP w' B v ys c :=
  World.ownsRow.kept h ho.grow (.inr fun e => by have := (h.lt R e).1; omega)
theorem OwP.wr {w : World} {B c : Nat} {v : Value} {ys : List Int} (h : OwP w B v ys c) (hn : c ≤ 1048576) : WrF 2 30 w B w.heap.size v ys c := WrF.of_own h hn
theorem OwP.form {w : World} {B c : Nat} {v : Value} {ys : List Int} (h : OwP w B v ys c) (hn : 0 < c) :
    ∃ g cap, v = .slice (some ⟨g, 0, none⟩) c cap ∧ B ≤ g ∧ g < w.heap.size ∧ c ≤ cap ∧ cap ≤ 9223372036854775807 ∧ (∀ k, k < c * 2 → w.cell? ⟨g, k, none⟩ = some (.int .i64 (gi ys k))) ∧ ∀ k, w.frozen? ⟨g, k, none⟩ = false := by
  obtain ⟨hl, hv⟩ := h
  have hln : ys.length = c * 2 := by simpa using hl
  rcases hv with ⟨_, h0⟩ | ⟨g, cap, cur, rfl, hB, hg, hc1, hc2, hc3, hc4⟩
  · omega
  · refine ⟨g, cap, rfl, hB, (Array.getElem?_eq_some_iff.1 hg).1, hc1, by unfold maxLen at hc2; omega, fun k hk => ?_, fun k => frozen_of_row w g k cur _ hg⟩
    rw [cell_of_row w g k cur _ (0, 0) hg]
    have : (cur.toList.take (c * 2))[k]? = some (.int .i64 (gi ys k)) := by
      rw [hc4, List.getElem?_map]
      have : k < ys.length := by omega
      simp [gi, this]
    rw [List.getElem?_take, if_pos hk] at this
    simpa using this
theorem OwP.set {w : World} {B g n c cap : Nat} {ys : List Int} (h : OwP w B (.slice (some ⟨g, 0, none⟩) n cap) ys c) (k : Nat) (u : Int) :
    OwP (w.setCell ⟨g, k, none⟩ (.int .i64 u)) B (.slice (some ⟨g, 0, none⟩) n cap) (ys.set k u) c := by
  obtain ⟨hl, hv⟩ := h
  refine ⟨by simpa using hl, ?_⟩
  rcases hv with ⟨e, _⟩ | ⟨g', cap', cur, e, hB, hg, hc1, hc2, hc3, hc4⟩
  · cases e
  · cases e
    refine .inr ⟨g, cap, _, rfl, hB, heap_setCell_same w g k cur _ (.int .i64 u) hg, by simpa using hc1, hc2, by simpa using hc3, ?_⟩
    rw [Array.toList_setIfInBounds, List.take_set, hc4, List.map_set]

theorem infoSpareD : (Tryd.prog.info? 30).map (fun i => (i.zero, i.size, i.bytes)) = some (some (.agg #[.int .i64 0, .int .i64 0]), 2, 16) := by kernel_rfl
/-- 'out = append(out, s)'. -/
theorem wpList_pushP {ops : Array Oper} {rest : List Oper} {o : Oper} {a : Act} {Q : Exit → Act → World → Prop} {w : World} {B c : Nat} {v : Value} {ys : List Int} {m f : Int} {s x : Operand} (hown : OwP w B v ys c) (hgd : o.guard = none)
    (ho : o.op = .call { callee := .builtin .append, args := #[s, x], argTypes := #[23, 23] })
    (hs : a.eval s = v) (hx : a.eval x = .slice (some ⟨w.heap.size, 0, none⟩) 1 1) (hlen : c ≤ 1048576) (hB : B ≤ w.heap.size)
    (h : ∀ v' w', OwP w' B v' (ys ++ [m, f]) (c + 1) → Below B w w' → wpList Tryd.prog ops Q rest (a.put o.dst v') w') :
    wpList Tryd.prog ops Q (o :: rest) a (w.alloc (.cells #[.int .i64 m, .int .i64 f] 30)) := by
  obtain ⟨i, hi, hz, hsz, hb⟩ := info_parts infoSpareD
  refine wpList_append_own (w := w.alloc (.cells #[.int .i64 m, .int .i64 f] 30)) hgd s x 23 ho B 30 i (.agg #[.int .i64 0, .int .i64 0]) 2 16 Tryd.underlying23 hi hz hsz hb rfl (by decide) v c _ hs (hown.alloc _)
    ⟨w.heap.size, 0, none⟩ 1 1 [.int .i64 m, .int .i64 f] hx rfl ?_ ?_ ?_ ?_ ?_ ?_
  · intro j u hj
    match j, hj with
    | 0, hj => simp at hj; subst hj; simp [Addr.add]
    | 1, hj => simp at hj; subst hj; simp [Addr.add]
  · intro u hu
    simp at hu
    rcases hu with rfl | rfl <;> rfl
  · unfold maxLen; omega
  · omega
  · simp; omega
  · intro v' w' h1 h2 _
    refine h v' w' ?_ ?_
    · unfold OwP
      rw [List.map_append]
      exact h1
    · exact ((Below.refl B w).alloc hB _).grown h2 (by simp; omega) (fun k hk => (hown.lt k hk).1)

theorem OwP.form0 {w : World} {B c : Nat} {v : Value} {ys : List Int} (h : OwP w B v ys c) : ∃ a cap, v = .slice a c cap ∧ ys.length = c * 2 := by
  obtain ⟨hl, hv⟩ := h
  have hln : ys.length = c * 2 := by simpa using hl
  rcases hv with ⟨rfl, h1⟩ | ⟨g, cap, cur, rfl, _⟩
  · exact ⟨_, _, by rw [h1], hln⟩
  · exact ⟨_, _, rfl, hln⟩

/-- What l91Spares leaves. -/
def SpD (w w' : World) (lo R p : Nat) (v : Value) : Prop := ∃ cs n p', p' ≤ p + 60 ∧ St w w' lo R p' ∧ WrF 2 30 w' w.heap.size w'.heap.size v cs n ∧ n ≤ 12

set_option maxRecDepth 100000 in
set_option maxHeartbeats 2000000 in
theorem l91Spares_any (lo R p most : Nat) (w : World) (hr : Rd w lo R p) (hp : p ≤ 900000) (hm : most ≤ 12) :
    Calls Tryd.prog 46 #[.pointer (some ⟨R, 0, none⟩), .int .i64 (most : Int)] w fun e w' => ∃ v, e = .returned v ∧ Hid (SpD w w' lo R p v) := by
  have hRw := hr.lt
  have hb0 : Below w.heap.size w (w.alloc (.cells #[] 30)) := (Below.refl _ w).alloc (Nat.le_refl _) _
  have HS0 := Lib.hid ((St.start hr).below hb0)
  have HO0 := Lib.hid (OwP.empty w w.heap.size (Nat.le_refl _))
  have PK := Lib.hid fun W h => pick_any lo R p (most + 1) W h (by omega) (by omega) (by omega)
  rw [Int.natCast_add] at PK
  clear hb0 hr
  go_enter Tryd.func46, Tryd.ntmps46
  go_wp2_with fail
  refine (PK.out _ HS0.out.rd).mono ?_
  rintro e w1 ⟨n, rfl, hn, d1, o1, z1⟩
  have ST := Lib.hid (HS0.out.pick d1 o1)
  have OWN := Lib.hid (HO0.out.pick o1 (by omega))
  have hzz : w.heap.size ≤ w1.heap.size := by rw [z1]; simp
  clear d1 o1 HS0 HO0 z1 PK
  go_wp2
  go_loopw [5, 7] (fun ov i wr => ∃ (k : Nat) (o : List Int), k ≤ n ∧ i = .int .i64 k ∧ Hid (OwP wr w.heap.size ov o k) ∧ Hid (St w wr lo R (p + 1 + 2 * k)) ∧ w.heap.size ≤ wr.heap.size) (fun _ i _ => n - (intOf i).toNat)
  case atStart => exact ⟨0, [], Nat.zero_le _, rfl, OWN, ST, hzz⟩
  case round =>
    clear OWN ST hzz
    obtain ⟨k, o, hk, rfl, hown, hst, hz⟩ := hrel
    by_cases hlt : k < n
    · go_wp2_with fail
      refine (pick_any lo R (p + 1 + 2 * k) 12 _ hst.out.rd (by omega) (by omega) (by omega)).mono ?_
      rintro e w2 ⟨q1, rfl, hq1, d2, o2, z2⟩
      have ST2 := Lib.hid (hst.out.pick d2 o2)
      have OWN2 := Lib.hid (hown.out.pick o2 (by omega))
      have hz2 : w.heap.size ≤ w2.heap.size := by omega
      clear d2 o2 hst hown z2
      go_wp2_with fail
      refine (pick_any lo R (p + 1 + 2 * k + 1) 3 _ ST2.out.rd (by omega) (by omega) (by omega)).mono ?_
      rintro e w4 ⟨q2, rfl, hq2, d3, o3, z3⟩
      have ST4 := Lib.hid (ST2.out.pick d3 o3)
      have OWN4 := Lib.hid (OWN2.out.pick o3 (by omega))
      have hz4 : w.heap.size ≤ w4.heap.size := by omega
      have hq : (q2 : Int).tdiv 2 = ((q2 / 2 : Nat) : Int) := by rw [Int.tdiv_eq_ediv_of_nonneg (by omega)]; rfl
      have hq5 : q2 / 2 ≤ 1 := by omega
      clear d3 o3 ST2 OWN2 z3
      revert hq hq5
      generalize q2 / 2 = qq
      intro hq hq5
      go_wp2_with (at_builtin; refine wpList_pushP OWN4.out (by rfl) (by rfl) (by rfl) (by rfl) (by omega) hz4 ?_; intro v' w5 hown5 hb5; have HO5 := Lib.hid hown5; have HB5 := Lib.hid hb5; clear hown5 hb5)
      go_roundw
      case rel => exact ⟨k + 1, _, by omega, by go_num, HO5, Lib.hid (by have := ST4.out.below HB5.out; rwa [show p + 1 + 2 * (k + 1) = p + 1 + 2 * k + 1 + 1 by omega]), Nat.le_trans hz4 HB5.out.size⟩
      case measure => simp [intOf]; omega
    · obtain rfl : k = n := by omega
      by_cases h00 : k = 0
      · subst h00
        go_wp2_with fail
        go_ret
        exact ⟨_, rfl, Lib.hid ⟨_, 0, _, (by omega : p + 1 + 2 * 0 ≤ p + 60), hst.out, hown.out.wr (by omega), by omega⟩⟩
      · have hk0 : (0 : Int) < (k : Int) := by omega
        obtain ⟨g, cap, rfl, hgB, hgw, hcp, hcp2, hcs, hfz⟩ := hown.out.form (by omega)
        go_wp2_with fail
        refine (pick_any lo R (p + 1 + 2 * k) 40 _ hst.out.rd (by omega) (by omega) (by omega)).mono ?_
        rintro e w2 ⟨q, rfl, hq, d2, o2, z2⟩
        have ST2 := Lib.hid (hst.out.pick d2 o2)
        have OWN2 := Lib.hid (hown.out.pick o2 (by omega))
        have hz2 : w.heap.size ≤ w2.heap.size := by omega
        clear d2 o2 hst hown hcs hfz z2
        by_cases h0 : q = 0
        · subst h0
          have bx := (Below.refl w2.heap.size w2).alloc (Nat.le_refl _) (.cells #[.int .i64 (0), .int .i64 (51)] 3)
          have ST3 := Lib.hid (ST2.out.below (bx.mono hz2))
          have OWN3 := Lib.hid (OWN2.out.below bx)
          have ROW := Lib.hid (Row.new w2 #[.int .i64 (0), .int .i64 (51)] 3)
          clear bx ST2 OWN2
          go_wp2_with fail
          refine (pick_any lo R (p + 1 + 2 * k + 1) 2 _ ST3.out.rd (by omega) (by omega) (by omega)).mono ?_
          rintro e w3 ⟨t, rfl, ht, d3, o3, z3⟩
          have row := ROW.out.pick o3 (by omega)
          have ST4 := Lib.hid (ST3.out.pick d3 o3)
          have OWN4 := Lib.hid (OWN3.out.pick o3 (by omega))
          have hz3 : w.heap.size ≤ w3.heap.size := by rw [z3]; simp; omega
          obtain ⟨u, hu⟩ : ∃ u : Int, w3.cell? ⟨w2.heap.size, t, none⟩ = some (.int .i64 u) := by
            rw [row.cell]
            match t, ht with
            | 0, _ => exact ⟨_, rfl⟩
            | 1, _ => exact ⟨_, rfl⟩
          obtain ⟨g', cap', e', -, -, -, -, hcs, hfz⟩ := OWN4.out.form (by omega)
          cases e'
          have hc0 := hcs 0 (by omega)
          have hf0 := hfz 0
          have ht2 : (t : Int) < 2 := by omega
          clear row d3 o3 z3 ST3 OWN3 ROW hcs hfz
          go_wp2_with fail
          go_ret
          exact ⟨_, rfl, Lib.hid ⟨_, k, _, (by omega : p + 1 + 2 * k + 1 + 1 ≤ p + 60), ST4.out.below ((Below.refl _ _).setCell (p := ⟨g, 0, none⟩) hgB _), (OWN4.out.set 0 u).wr (by omega), by omega⟩⟩
        by_cases h1 : q = 1
        · subst h1
          have bx := (Below.refl w2.heap.size w2).alloc (Nat.le_refl _) (.cells #[.int .i64 (-1), .int .i64 (4)] 3)
          have ST3 := Lib.hid (ST2.out.below (bx.mono hz2))
          have OWN3 := Lib.hid (OWN2.out.below bx)
          have ROW := Lib.hid (Row.new w2 #[.int .i64 (-1), .int .i64 (4)] 3)
          clear bx ST2 OWN2
          go_wp2_with fail
          refine (pick_any lo R (p + 1 + 2 * k + 1) 2 _ ST3.out.rd (by omega) (by omega) (by omega)).mono ?_
          rintro e w3 ⟨t, rfl, ht, d3, o3, z3⟩
          have row := ROW.out.pick o3 (by omega)
          have ST4 := Lib.hid (ST3.out.pick d3 o3)
          have OWN4 := Lib.hid (OWN3.out.pick o3 (by omega))
          have hz3 : w.heap.size ≤ w3.heap.size := by rw [z3]; simp; omega
          obtain ⟨u, hu⟩ : ∃ u : Int, w3.cell? ⟨w2.heap.size, t, none⟩ = some (.int .i64 u) := by
            rw [row.cell]
            match t, ht with
            | 0, _ => exact ⟨_, rfl⟩
            | 1, _ => exact ⟨_, rfl⟩
          obtain ⟨g', cap', e', -, -, -, -, hcs, hfz⟩ := OWN4.out.form (by omega)
          cases e'
          have hc0 := hcs 1 (by omega)
          have hf0 := hfz 1
          have ht2 : (t : Int) < 2 := by omega
          clear row d3 o3 z3 ST3 OWN3 ROW hcs hfz
          go_wp2_with fail
          go_ret
          exact ⟨_, rfl, Lib.hid ⟨_, k, _, (by omega : p + 1 + 2 * k + 1 + 1 ≤ p + 60), ST4.out.below ((Below.refl _ _).setCell (p := ⟨g, 1, none⟩) hgB _), (OWN4.out.set 1 u).wr (by omega), by omega⟩⟩
        · have e0 : ((q : Int) == 0) = false := by simp; omega
          have e1 : ((q : Int) == 1) = false := by simp; omega
          go_wp2_with fail
          go_ret
          exact ⟨_, rfl, Lib.hid ⟨_, k, _, (by omega : p + 1 + 2 * k + 1 ≤ p + 60), ST2.out, OWN2.out.wr (by omega), by omega⟩⟩

end Go.Proofs.YthbkimojbbkeiaaDoor
