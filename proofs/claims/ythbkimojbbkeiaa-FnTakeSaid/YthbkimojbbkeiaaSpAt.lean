/- Draws: l91At; l91Spares with bounds on its cells; DrawSparesTake. -/
import Derived.Test.YthbkimojbbkeiaaSpDr3
namespace Go.Proofs.Ythbkimojbbkeiaa
open Go.RowKit

/-- The cells are small. -/
def bdL (o : List Int) : Prop := ∀ x, x ∈ o → -1 ≤ x ∧ x ≤ 51
theorem bd_push {o : List Int} {a b : Int} (h : bdL o) (ha : -1 ≤ a ∧ a ≤ 51) (hb : -1 ≤ b ∧ b ≤ 51) : bdL (o ++ [a, b]) := fun x hx => by
  rw [List.mem_append] at hx
  rcases hx with hx | hx
  · exact h x hx
  · simp at hx
    rcases hx with rfl | rfl
    · exact ha
    · exact hb
theorem bd_set {o : List Int} {i : Nat} {u : Int} (h : bdL o) (hu : -1 ≤ u ∧ u ≤ 51) : bdL (o.set i u) := fun x hx => by
  rcases List.mem_or_eq_of_mem_set hx with hx | rfl
  · exact h x hx
  · exact hu
theorem bd_gi {o : List Int} (h : bdL o) (i : Nat) : -1 ≤ gi o i ∧ gi o i ≤ 51 := by
  unfold gi
  cases e : o[i]? with
  | none => simp
  | some y => exact h y (List.mem_of_getElem? e)
/-- What l91Spares leaves. -/
def SpDb (w w' : World) (lo R p : Nat) (v : Value) : Prop := ∃ cs n p', p' ≤ p + 60 ∧ St w w' lo R p' ∧ WrF 2 35 w' w.heap.size w'.heap.size v cs n ∧ n ≤ 12 ∧ bdL cs

set_option maxRecDepth 100000 in
set_option maxHeartbeats 2000000 in
theorem l91Spares_bd (lo R p most : Nat) (w : World) (hr : Rd w lo R p) (hp : p ≤ 900000) (hm : most ≤ 12) :
    Calls Try.prog 81 #[.pointer (some ⟨R, 0, none⟩), .int .i64 (most : Int)] w fun e w' => ∃ v, e = .returned v ∧ Hid (SpDb w w' lo R p v) := by
  have hRw := hr.lt
  have hb0 : Below w.heap.size w (w.alloc (.cells #[] 35)) := (Below.refl _ w).alloc (Nat.le_refl _) _
  have HS0 := Lib.hid ((St.start hr).below hb0)
  have HO0 := Lib.hid (OwP.empty w w.heap.size (Nat.le_refl _))
  have PK := Lib.hid fun W h => pick_any lo R p (most + 1) W h (by omega) (by omega) (by omega)
  rw [Int.natCast_add] at PK
  clear hb0 hr
  go_enter Try.func81, Try.ntmps81
  go_wp2_with fail
  refine (PK.out _ HS0.out.rd).mono ?_
  rintro e w1 ⟨n, rfl, hn, d1, o1, z1⟩
  have ST := Lib.hid (HS0.out.pick d1 o1)
  have OWN := Lib.hid (HO0.out.pick o1 (by omega))
  have hzz : w.heap.size ≤ w1.heap.size := by rw [z1]; simp
  clear d1 o1 HS0 HO0 z1 PK
  go_wp2
  go_loopw [5, 7] (fun ov i wr => ∃ (k : Nat) (o : List Int), k ≤ n ∧ i = .int .i64 k ∧ Hid (OwP wr w.heap.size ov o k) ∧ Hid (St w wr lo R (p + 1 + 2 * k)) ∧ w.heap.size ≤ wr.heap.size ∧ Hid (bdL o)) (fun _ i _ => n - (intOf i).toNat)
  case atStart => exact ⟨0, [], Nat.zero_le _, rfl, OWN, ST, hzz, fun x hx => by cases hx⟩
  case round =>
    clear OWN ST hzz
    obtain ⟨k, o, hk, rfl, hown, hst, hz, hbd⟩ := hrel
    by_cases hlt : k < n
    · go_wp2_with fail
      refine (pick_any lo R (p + 1 + 2 * k) 12 _ hst.out.rd (by omega) (by omega) (by omega)).mono ?_
      rintro e w2 ⟨q1, rfl, hq1, d2, o2, z2⟩
      have ST2 := Lib.hid (hst.out.pick d2 o2)
      have OWN2 := Lib.hid (hown.out.pick o2 (by omega))
      have hz2 : w.heap.size ≤ w2.heap.size := by omega
      clear d2 o2 hst hown z2
      go_wp2_with fail
      refine (pick_any lo R (p + 1 + 2 * k + 1) 3 _ ST2.out.rd (by omega) (by omega) (by omega)).mono ?_
      rintro e w4 ⟨q2, rfl, hq2, d3, o3, z3⟩
      have ST4 := Lib.hid (ST2.out.pick d3 o3)
      have OWN4 := Lib.hid (OWN2.out.pick o3 (by omega))
      have hz4 : w.heap.size ≤ w4.heap.size := by omega
      have hq : (q2 : Int).tdiv 2 = ((q2 / 2 : Nat) : Int) := by rw [Int.tdiv_eq_ediv_of_nonneg (by omega)]; rfl
      have hq5 : q2 / 2 ≤ 1 := by omega
      clear d3 o3 ST2 OWN2 z3
      revert hq hq5
      generalize q2 / 2 = qq
      intro hq hq5
      go_wp2_with (at_builtin; refine wpList_pushP OWN4.out (by rfl) (by rfl) (by rfl) (by rfl) (by omega) hz4 ?_; intro v' w5 hown5 hb5; have HO5 := Lib.hid hown5; have HB5 := Lib.hid hb5; clear hown5 hb5)
      go_roundw
      case rel => exact ⟨k + 1, _, by omega, by go_num, HO5, Lib.hid (by have := ST4.out.below HB5.out; rwa [show p + 1 + 2 * (k + 1) = p + 1 + 2 * k + 1 + 1 by omega]), Nat.le_trans hz4 HB5.out.size, Lib.hid (bd_push hbd.out (by omega) (by omega))⟩
      case measure => simp [intOf]; omega
    · obtain rfl : k = n := by omega
      by_cases h00 : k = 0
      · subst h00
        go_wp2_with fail
        go_ret
        exact ⟨_, rfl, Lib.hid ⟨_, 0, _, (by omega : p + 1 + 2 * 0 ≤ p + 60), hst.out, hown.out.wr (by omega), by omega, hbd.out⟩⟩
      · have hk0 : (0 : Int) < (k : Int) := by omega
        obtain ⟨g, cap, rfl, hgB, hgw, hcp, hcp2, hcs, hfz⟩ := hown.out.form (by omega)
        go_wp2_with fail
        refine (pick_any lo R (p + 1 + 2 * k) 40 _ hst.out.rd (by omega) (by omega) (by omega)).mono ?_
        rintro e w2 ⟨q, rfl, hq, d2, o2, z2⟩
        have ST2 := Lib.hid (hst.out.pick d2 o2)
        have OWN2 := Lib.hid (hown.out.pick o2 (by omega))
        have hz2 : w.heap.size ≤ w2.heap.size := by omega
        clear d2 o2 hst hown hcs hfz z2
        by_cases h0 : q = 0
        · subst h0
          have bx := (Below.refl w2.heap.size w2).alloc (Nat.le_refl _) (.cells #[.int .i64 (0), .int .i64 (51)] 3)
          have ST3 := Lib.hid (ST2.out.below (bx.mono hz2))
          have OWN3 := Lib.hid (OWN2.out.below bx)
          have ROW := Lib.hid (Row.new w2 #[.int .i64 (0), .int .i64 (51)] 3)
          clear bx ST2 OWN2
          go_wp2_with fail
          refine (pick_any lo R (p + 1 + 2 * k + 1) 2 _ ST3.out.rd (by omega) (by omega) (by omega)).mono ?_
          rintro e w3 ⟨t, rfl, ht, d3, o3, z3⟩
          have row := ROW.out.pick o3 (by omega)
          have ST4 := Lib.hid (ST3.out.pick d3 o3)
          have OWN4 := Lib.hid (OWN3.out.pick o3 (by omega))
          have hz3 : w.heap.size ≤ w3.heap.size := by rw [z3]; simp; omega
          obtain ⟨u, hu, hub⟩ : ∃ u : Int, w3.cell? ⟨w2.heap.size, t, none⟩ = some (.int .i64 u) ∧ (-1 ≤ u ∧ u ≤ 51) := by
            rw [row.cell]
            match t, ht with
            | 0, _ => exact ⟨_, rfl, by omega⟩
            | 1, _ => exact ⟨_, rfl, by omega⟩
          obtain ⟨g', cap', e', -, -, -, -, hcs, hfz⟩ := OWN4.out.form (by omega)
          cases e'
          have hc0 := hcs 0 (by omega)
          have hf0 := hfz 0
          have ht2 : (t : Int) < 2 := by omega
          clear row d3 o3 z3 ST3 OWN3 ROW hcs hfz
          go_wp2_with fail
          go_ret
          exact ⟨_, rfl, Lib.hid ⟨_, k, _, (by omega : p + 1 + 2 * k + 1 + 1 ≤ p + 60), ST4.out.below ((Below.refl _ _).setCell (p := ⟨g, 0, none⟩) hgB _), (OWN4.out.set 0 u).wr (by omega), by omega, bd_set hbd.out hub⟩⟩
        by_cases h1 : q = 1
        · subst h1
          have bx := (Below.refl w2.heap.size w2).alloc (Nat.le_refl _) (.cells #[.int .i64 (-1), .int .i64 (4)] 3)
          have ST3 := Lib.hid (ST2.out.below (bx.mono hz2))
          have OWN3 := Lib.hid (OWN2.out.below bx)
          have ROW := Lib.hid (Row.new w2 #[.int .i64 (-1), .int .i64 (4)] 3)
          clear bx ST2 OWN2
          go_wp2_with fail
          refine (pick_any lo R (p + 1 + 2 * k + 1) 2 _ ST3.out.rd (by omega) (by omega) (by omega)).mono ?_
          rintro e w3 ⟨t, rfl, ht, d3, o3, z3⟩
          have row := ROW.out.pick o3 (by omega)
          have ST4 := Lib.hid (ST3.out.pick d3 o3)
          have OWN4 := Lib.hid (OWN3.out.pick o3 (by omega))
          have hz3 : w.heap.size ≤ w3.heap.size := by rw [z3]; simp; omega
          obtain ⟨u, hu, hub⟩ : ∃ u : Int, w3.cell? ⟨w2.heap.size, t, none⟩ = some (.int .i64 u) ∧ (-1 ≤ u ∧ u ≤ 51) := by
            rw [row.cell]
            match t, ht with
            | 0, _ => exact ⟨_, rfl, by omega⟩
            | 1, _ => exact ⟨_, rfl, by omega⟩
          obtain ⟨g', cap', e', -, -, -, -, hcs, hfz⟩ := OWN4.out.form (by omega)
          cases e'
          have hc0 := hcs 1 (by omega)
          have hf0 := hfz 1
          have ht2 : (t : Int) < 2 := by omega
          clear row d3 o3 z3 ST3 OWN3 ROW hcs hfz
          go_wp2_with fail
          go_ret
          exact ⟨_, rfl, Lib.hid ⟨_, k, _, (by omega : p + 1 + 2 * k + 1 + 1 ≤ p + 60), ST4.out.below ((Below.refl _ _).setCell (p := ⟨g, 1, none⟩) hgB _), (OWN4.out.set 1 u).wr (by omega), by omega, bd_set hbd.out hub⟩⟩
        · have e0 : ((q : Int) == 0) = false := by simp; omega
          have e1 : ((q : Int) == 1) = false := by simp; omega
          go_wp2_with fail
          go_ret
          exact ⟨_, rfl, Lib.hid ⟨_, k, _, (by omega : p + 1 + 2 * k + 1 ≤ p + 60), ST2.out, OWN2.out.wr (by omega), by omega, hbd.out⟩⟩

set_option maxRecDepth 100000 in
set_option maxHeartbeats 2000000 in
theorem drawSparesTake_any (v : Value) (n hi : Nat) (w : World) (hv : By w hi v n) (hhi : hi ≤ w.heap.size) :
    Calls Try.prog 45 #[v] w fun e w' => ∃ v1 k m, e = .returned (.tuple #[v1, .int .i64 k, .int .i64 m]) ∧ Hid (∃ cs n, Below w.heap.size w w' ∧ SlF 2 w' w'.heap.size v1 cs n ∧ n ≤ 12 ∧ (-1 ≤ k ∧ k ≤ 12) ∧ (0 ≤ m ∧ m ≤ 60)) := by
  go_enter Try.func45, Try.ntmps45
  go_wp2_with fail
  refine (l6Open_any v n hi w hv hhi).mono ?_
  rintro e w1 ⟨rfl, b1, d1⟩
  have hz1 := d1.lt
  have B1 := Lib.hid b1
  have D1 := Lib.hid d1
  clear b1 d1 hv
  go_wp2_with fail
  refine (l91Spares_bd hi w.heap.size 0 6 w1 D1.out (by omega) (by omega)).mono ?_
  rintro e w2 ⟨v1, rfl, hd⟩
  obtain ⟨cs, n, p', hp', st, wr, hn, hbd⟩ := hd.out
  have ST2 := Lib.hid st
  have W2 := Lib.hid wr
  have HBD := Lib.hid (bd_gi hbd)
  obtain ⟨a1, cap1, rfl, hl1, -⟩ := wr
  clear hd st D1 hbd
  go_wp2_with fail
  refine (l91At_any hi w.heap.size p' n _ ST2.out.rd (by omega) (by omega)).mono ?_
  rintro e w3 ⟨k, p3, rfl, hp3, st3, hk1, hk2⟩
  have ST3 := Lib.hid (ST2.out.next st3)
  have W3 := Lib.hid (W2.out.of_block fun j hj h1 _ => st3.gr.block j hj (by simp; omega))
  have z3 := st3.gr.size
  clear st3 ST2 W2
  have fin : Hid (∀ (wz : World) (q : Nat) (m : Int), St w1 wz hi w.heap.size q → WrF 2 35 wz w1.heap.size w2.heap.size (.slice a1 n cap1) cs n → w2.heap.size ≤ wz.heap.size → 0 ≤ m → m ≤ 60 →
      (∃ cs n', Below w.heap.size w wz ∧ SlF 2 wz wz.heap.size (.slice a1 n cap1) cs n' ∧ n' ≤ 12 ∧ (-1 ≤ k ∧ k ≤ 12) ∧ (0 ≤ m ∧ m ≤ 60))) := Lib.hid fun wz q m hs hw hz h0 h6 =>
    ⟨cs, n, st_below B1.out hs (Nat.le_refl _), hw.sl.mono hz, hn, ⟨hk1, by omega⟩, h0, h6⟩
  by_cases hk0 : 0 ≤ k
  · obtain ⟨K, rfl⟩ := Int.eq_ofNat_of_zero_le hk0
    by_cases hkn : K < n
    · have t1 : decide ((K : Int) < (n : Int)) = true := decide_eq_true (by omega)
      go_wp2_with fail
      refine (pick_any hi w.heap.size p3 3 _ ST3.out.rd (by omega) (by omega) (by omega)).mono ?_
      rintro e w4 ⟨t, rfl, ht, d4, o4, z4⟩
      have ST4 := Lib.hid (ST3.out.pick d4 o4)
      have W4 := Lib.hid (W3.out.pick o4 hz1)
      have hz4 := o4.size
      clear d4 o4 z4 ST3 W3
      by_cases ht0 : 0 < t
      · have hb := HBD.out (K * 2)
        obtain ⟨_, _, e2, _, _, _, _, hc⟩ := W4.out.sl
        cases e2
        obtain ⟨b, off, rfl, hbh, hc⟩ := hc (by omega)
        obtain ⟨c0, -⟩ := cellsS hc hkn (Below.refl _ _) (World.block_lt_of_cell? w4 _ (hc (K * 2) (by omega)))
        clear hc
        have hx : gi cs (K * 2) = smi cs K := rfl
        rw [hx] at hb
        clear hx
        revert c0 hb
        generalize smi cs K = x
        intro c0 hb
        by_cases hx1 : 1 < x
        · obtain ⟨N, rfl⟩ := Int.eq_ofNat_of_zero_le (show 0 ≤ x by omega)
          have hN : 1 < N := by omega
          have hN2 : N ≤ 51 := by omega
          go_wp2_with fail
          refine (pick_any hi w.heap.size (p3 + 1) N _ ST4.out.rd (by omega) (by omega) (by omega)).mono ?_
          rintro e w5 ⟨u, rfl, hu, d5, o5, z5⟩
          have ST5 := Lib.hid (ST4.out.pick d5 o5)
          have W5 := Lib.hid (W4.out.pick o5 hz1)
          have hz5 := o5.size
          clear d5 o5 z5 ST4 W4 c0
          have hw : IntKind.i64.wrap (1 + (u : Int)) = 1 + (u : Int) := IntWalk.i64_in _ (by omega)
          go_wp2_with fail
          refine bodyPost_ret (by simp [results, Try.results45, go_sem]; rfl) rfl ?_
          exact ⟨_, _, _, rfl, Lib.hid (fin.out _ _ _ ST5.out W5.out (by omega) (by omega) (by omega))⟩
        · have hx2 : x ≤ 1 := by omega
          have hx3 : (x > 1) = False := eq_false hx1
          have hx4 : (1 < x) = False := eq_false hx1
          go_wp2_with fail
          refine (pick_any hi w.heap.size (p3 + 1) 1 _ ST4.out.rd (by omega) (by omega) (by omega)).mono ?_
          rintro e w5 ⟨u, rfl, hu, d5, o5, z5⟩
          have ST5 := Lib.hid (ST4.out.pick d5 o5)
          have W5 := Lib.hid (W4.out.pick o5 hz1)
          have hz5 := o5.size
          clear d5 o5 z5 ST4 W4 c0
          have hw : IntKind.i64.wrap (1 + (u : Int)) = 1 + (u : Int) := IntWalk.i64_in _ (by omega)
          go_wp2_with fail
          refine bodyPost_ret (by simp [results, Try.results45, go_sem]; rfl) rfl ?_
          exact ⟨_, _, _, rfl, Lib.hid (fin.out _ _ _ ST5.out W5.out (by omega) (by omega) (by omega))⟩
      · have t2 : decide ((0 : Int) < (t : Int)) = false := decide_eq_false (by omega)
        have t3 : decide (0 < t) = false := decide_eq_false ht0
        go_wp2_with fail
        refine (pick_any hi w.heap.size (p3 + 1) 14 _ ST4.out.rd (by omega) (by omega) (by omega)).mono ?_
        rintro e w5 ⟨u, rfl, hu, d5, o5, z5⟩
        have ST5 := Lib.hid (ST4.out.pick d5 o5)
        have W5 := Lib.hid (W4.out.pick o5 hz1)
        have hz5 := o5.size
        clear d5 o5 z5 ST4 W4
        go_wp2_with fail
        refine bodyPost_ret (by simp [results, Try.results45, go_sem]; rfl) rfl ?_
        exact ⟨_, _, _, rfl, Lib.hid (fin.out _ _ _ ST5.out W5.out (by omega) (by omega) (by omega))⟩
    · have t1 : decide ((K : Int) < (n : Int)) = false := decide_eq_false (by omega)
      go_wp2_with fail
      refine (pick_any hi w.heap.size p3 14 _ ST3.out.rd (by omega) (by omega) (by omega)).mono ?_
      rintro e w5 ⟨u, rfl, hu, d5, o5, z5⟩
      have ST5 := Lib.hid (ST3.out.pick d5 o5)
      have W5 := Lib.hid (W3.out.pick o5 hz1)
      have hz5 := o5.size
      clear d5 o5 z5 ST3 W3
      go_wp2_with fail
      refine bodyPost_ret (by simp [results, Try.results45, go_sem]; rfl) rfl ?_
      exact ⟨_, _, _, rfl, Lib.hid (fin.out _ _ _ ST5.out W5.out (by omega) (by omega) (by omega))⟩
  · have t1 : decide ((0 : Int) ≤ k) = false := decide_eq_false hk0
    go_wp2_with fail
    refine (pick_any hi w.heap.size p3 14 _ ST3.out.rd (by omega) (by omega) (by omega)).mono ?_
    rintro e w5 ⟨u, rfl, hu, d5, o5, z5⟩
    have ST5 := Lib.hid (ST3.out.pick d5 o5)
    have W5 := Lib.hid (W3.out.pick o5 hz1)
    have hz5 := o5.size
    clear d5 o5 z5 ST3 W3
    go_wp2_with fail
    refine bodyPost_ret (by simp [results, Try.results45, go_sem]; rfl) rfl ?_
    exact ⟨_, _, _, rfl, Lib.hid (fin.out _ _ _ ST5.out W5.out (by omega) (by omega) (by omega))⟩

end Go.Proofs.Ythbkimojbbkeiaa
