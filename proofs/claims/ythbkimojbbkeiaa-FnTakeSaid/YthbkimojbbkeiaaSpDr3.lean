/- Draws of chapter 4. -/
import Derived.Test.YthbkimojbbkeiaaSpDr2
namespace Go.Proofs.Ythbkimojbbkeiaa
open Go.RowKit

theorem st_below {w w1 w2 : World} {lo R p : Nat} (B1 : Below w.heap.size w w1) (st : St w1 w2 lo R p) (hR : w.heap.size ≤ R) : Below w.heap.size w w2 :=
  ⟨st.gr.os.trans B1.os, st.gr.tape.trans B1.tape, st.gr.output.trans B1.output, Nat.le_trans B1.size st.gr.size, fun j hj => (st.gr.block j (by have := B1.size; omega) (by simp; omega)).trans (B1.block j hj)⟩

set_option maxHeartbeats 1000000 in
theorem l91At_any (lo R p n : Nat) (w : World) (hr : Rd w lo R p) (hp : p ≤ 900100) (hm : n ≤ 20) :
    Calls Try.prog 82 #[.pointer (some ⟨R, 0, none⟩), .int .i64 (n : Int)] w fun e w' => ∃ (m : Int) (p' : Nat), e = .returned (.int .i64 m) ∧ p' ≤ p + 2 ∧ St w w' lo R p' ∧ -1 ≤ m ∧ m ≤ n := by
  have hRw := hr.lt
  by_cases hn0 : n = 0
  · subst hn0
    have ha : Below w.heap.size w (w.alloc (.cells #[.int .i64 (-1), .int .i64 0] 3)) := (Below.refl _ _).alloc (Nat.le_refl _) _
    have sta := (St.start hr).below ha
    have rowa := Row.new w #[.int .i64 (-1), .int .i64 0] 3
    have STA := Lib.hid sta
    have ROWA := Lib.hid rowa
    clear ha sta rowa
    go_enter Try.func82, Try.ntmps82
    go_wp2_with fail
    refine (pick_any lo R p 2 _ STA.out.rd (by omega) (by omega) (by omega)).mono ?_
    rintro e w3 ⟨m, rfl, hm2, d3, o3, z3⟩
    have st3 := STA.out.pick d3 o3
    have row3 : Row w3 w.heap.size 3 #[.int .i64 (-1), .int .i64 0] := (o3.block w.heap.size (by simp) (.inr (by omega))).trans ROWA.out
    have k0 : w3.cell? ⟨w.heap.size, 0, none⟩ = some (.int .i64 (-1)) := by rw [row3.cell]; rfl
    have k1 : w3.cell? ⟨w.heap.size, 1, none⟩ = some (.int .i64 0) := by rw [row3.cell]; rfl
    have ST3 := Lib.hid st3
    clear st3 row3 d3 o3 z3 STA ROWA
    rcases (by omega : m = 0 ∨ m = 1) with rfl | rfl
    · go_wp2
      go_ret
      exact ⟨-1, _, rfl, by omega, ST3.out, by omega, by omega⟩
    · go_wp2
      go_ret
      exact ⟨0, _, rfl, by omega, ST3.out, by omega, by omega⟩
  · have hb : ((n : Int) == 0) = false := by rw [beq_eq_false_iff_ne]; omega
    go_enter Try.func82, Try.ntmps82
    go_wp2_with fail
    refine (pick_any lo R p 20 _ hr (by omega) (by omega) (by omega)).mono ?_
    rintro e w1 ⟨q, rfl, hq, d1, o1, z1⟩
    have st1 := (St.start hr).pick d1 o1
    by_cases hq0 : q = 0
    · subst hq0
      have ha : Below w1.heap.size w1 (w1.alloc (.cells #[.int .i64 (-1), .int .i64 (n : Int)] 3)) := (Below.refl _ _).alloc (Nat.le_refl _) _
      have sta := st1.below (ha.mono (by omega))
      have rowa := Row.new w1 #[.int .i64 (-1), .int .i64 (n : Int)] 3
      have hR1 : R < w1.heap.size := by omega
      have STA := Lib.hid sta
      have ROWA := Lib.hid rowa
      clear ha sta rowa st1 d1 o1 z1
      go_wp2_with fail
      refine (pick_any lo R (p + 1) 2 _ STA.out.rd (by omega) (by omega) (by omega)).mono ?_
      rintro e w3 ⟨m, rfl, hm2, d3, o3, z3⟩
      have st3 := STA.out.pick d3 o3
      have row3 : Row w3 w1.heap.size 3 #[.int .i64 (-1), .int .i64 (n : Int)] := (o3.block w1.heap.size (by simp) (.inr (by omega))).trans ROWA.out
      have k0 : w3.cell? ⟨w1.heap.size, 0, none⟩ = some (.int .i64 (-1)) := by rw [row3.cell]; rfl
      have k1 : w3.cell? ⟨w1.heap.size, 1, none⟩ = some (.int .i64 (n : Int)) := by rw [row3.cell]; rfl
      have ST3 := Lib.hid st3
      clear st3 row3 d3 o3 z3 STA ROWA
      rcases (by omega : m = 0 ∨ m = 1) with rfl | rfl
      · go_wp2
        go_ret
        exact ⟨-1, _, rfl, by omega, ST3.out, by omega, by omega⟩
      · go_wp2
        go_ret
        exact ⟨n, _, rfl, by omega, ST3.out, by omega, by omega⟩
    · have hb0 : ((q : Int) == 0) = false := by rw [beq_eq_false_iff_ne]; omega
      have ST1 := Lib.hid st1
      clear st1 d1 o1 z1
      go_wp2_with fail
      refine (pick_any lo R (p + 1) n _ ST1.out.rd (by omega) (by omega) (by omega)).mono ?_
      rintro e w3 ⟨m, rfl, hm2, d3, o3, z3⟩
      have ST3 := Lib.hid (ST1.out.pick d3 o3)
      clear d3 o3 z3 ST1
      go_wp2
      go_ret
      exact ⟨m, _, rfl, by omega, ST3.out, by omega, by omega⟩

/-- A draw: from a reader that is new. -/
theorem drawServeMany_any (v : Value) (n hi : Nat) (w : World) (hv : By w hi v n) (hhi : hi ≤ w.heap.size) :
    Calls Try.prog 44 #[v] w fun e w' => ∃ v1 v2, e = .returned (.tuple #[v1, v2]) ∧ Hid (∃ cs n ds m, Below w.heap.size w w' ∧ SlF 2 w' w'.heap.size v1 cs n ∧ SlF 2 w' w'.heap.size v2 ds m ∧ n ≤ 12 ∧ m ≤ 4) := by
  go_enter Try.func44, Try.ntmps44
  go_wp2_with fail
  refine (l6Open_any v n hi w hv hhi).mono ?_
  rintro e w1 ⟨rfl, b1, d1⟩
  have B1 := Lib.hid b1
  have D1 := Lib.hid d1
  clear b1 d1 hv
  go_wp2_with fail
  refine (l91Needs_any hi w.heap.size 0 w1 D1.out (by omega)).mono ?_
  rintro e w2 ⟨v1, v2, rfl, hd⟩
  obtain ⟨cs, n, ds, m, p', hp', st, s1, hn, s2, hm⟩ := hd.out
  have HG := Lib.hid (And.intro (st_below B1.out st (Nat.le_refl _)) (And.intro s1.sl s2.sl))
  clear hd st s1 s2 D1 B1
  go_wp2_with fail
  go_ret2
  exact ⟨_, _, rfl, Lib.hid ⟨cs, n, ds, m, HG.out.1, HG.out.2.1, HG.out.2.2, hn, hm⟩⟩

theorem drawServeCan_any (v : Value) (n hi : Nat) (w : World) (hv : By w hi v n) (hhi : hi ≤ w.heap.size) :
    Calls Try.prog 49 #[v] w fun e w' => ∃ v1 v2, e = .returned (.tuple #[v1, v2]) ∧ Hid (∃ cs n ds m, Below w.heap.size w w' ∧ SlF 2 w' w'.heap.size v1 cs n ∧ SlF 2 w' w'.heap.size v2 ds m ∧ n ≤ 12 ∧ m ≤ 4) := by
  go_enter Try.func49, Try.ntmps49
  go_wp2_with fail
  refine (l6Open_any v n hi w hv hhi).mono ?_
  rintro e w1 ⟨rfl, b1, d1⟩
  have B1 := Lib.hid b1
  have D1 := Lib.hid d1
  clear b1 d1 hv
  go_wp2_with fail
  refine (l91Needs_any hi w.heap.size 0 w1 D1.out (by omega)).mono ?_
  rintro e w2 ⟨v1, v2, rfl, hd⟩
  obtain ⟨cs, n, ds, m, p', hp', st, s1, hn, s2, hm⟩ := hd.out
  have HG := Lib.hid (And.intro (st_below B1.out st (Nat.le_refl _)) (And.intro s1.sl s2.sl))
  clear hd st s1 s2 D1 B1
  go_wp2_with fail
  go_ret2
  exact ⟨_, _, rfl, Lib.hid ⟨cs, n, ds, m, HG.out.1, HG.out.2.1, HG.out.2.2, hn, hm⟩⟩

theorem drawServeBest_any (v : Value) (n hi : Nat) (w : World) (hv : By w hi v n) (hhi : hi ≤ w.heap.size) :
    Calls Try.prog 57 #[v] w fun e w' => ∃ v1 v2, e = .returned (.tuple #[v1, v2]) ∧ Hid (∃ cs n ds m, Below w.heap.size w w' ∧ SlF 2 w' w'.heap.size v1 cs n ∧ SlF 2 w' w'.heap.size v2 ds m ∧ n ≤ 12 ∧ m ≤ 4) := by
  go_enter Try.func57, Try.ntmps57
  go_wp2_with fail
  refine (l6Open_any v n hi w hv hhi).mono ?_
  rintro e w1 ⟨rfl, b1, d1⟩
  have B1 := Lib.hid b1
  have D1 := Lib.hid d1
  clear b1 d1 hv
  go_wp2_with fail
  refine (l91Needs_any hi w.heap.size 0 w1 D1.out (by omega)).mono ?_
  rintro e w2 ⟨v1, v2, rfl, hd⟩
  obtain ⟨cs, n, ds, m, p', hp', st, s1, hn, s2, hm⟩ := hd.out
  have HG := Lib.hid (And.intro (st_below B1.out st (Nat.le_refl _)) (And.intro s1.sl s2.sl))
  clear hd st s1 s2 D1 B1
  go_wp2_with fail
  go_ret2
  exact ⟨_, _, rfl, Lib.hid ⟨cs, n, ds, m, HG.out.1, HG.out.2.1, HG.out.2.2, hn, hm⟩⟩

theorem drawSparesSort_any (v : Value) (n hi : Nat) (w : World) (hv : By w hi v n) (hhi : hi ≤ w.heap.size) :
    Calls Try.prog 62 #[v] w fun e w' => ∃ v1, e = .returned v1 ∧ Hid (∃ cs n, Below w.heap.size w w' ∧ SlF 2 w' w'.heap.size v1 cs n ∧ n ≤ 12) := by
  go_enter Try.func62, Try.ntmps62
  go_wp2_with fail
  refine (l6Open_any v n hi w hv hhi).mono ?_
  rintro e w1 ⟨rfl, b1, d1⟩
  have B1 := Lib.hid b1
  have D1 := Lib.hid d1
  clear b1 d1 hv
  go_wp2_with fail
  refine (l91Spares_any hi w.heap.size 0 7 w1 D1.out (by omega) (by omega)).mono ?_
  rintro e w2 ⟨v1, rfl, hd⟩
  obtain ⟨cs, n, p', hp', st, wr, hn⟩ := hd.out
  have HG := Lib.hid (And.intro (st_below B1.out st (Nat.le_refl _)) wr.sl)
  clear hd st wr D1 B1
  go_wp2_with fail
  go_ret
  exact ⟨_, rfl, Lib.hid ⟨cs, n, HG.out.1, HG.out.2, hn⟩⟩

theorem drawSparesMiles_any (v : Value) (n hi : Nat) (w : World) (hv : By w hi v n) (hhi : hi ≤ w.heap.size) :
    Calls Try.prog 59 #[v] w fun e w' => ∃ v1 k, e = .returned (.tuple #[v1, .int .i64 k]) ∧ Hid (∃ cs n, Below w.heap.size w w' ∧ SlF 2 w' w'.heap.size v1 cs n ∧ n ≤ 12 ∧ -1 ≤ k ∧ k ≤ 4) := by
  go_enter Try.func59, Try.ntmps59
  go_wp2_with fail
  refine (l6Open_any v n hi w hv hhi).mono ?_
  rintro e w1 ⟨rfl, b1, d1⟩
  have hz1 := d1.lt
  have B1 := Lib.hid b1
  have D1 := Lib.hid d1
  clear b1 d1 hv
  go_wp2_with fail
  refine (l91Spares_any hi w.heap.size 0 6 w1 D1.out (by omega) (by omega)).mono ?_
  rintro e w2 ⟨v1, rfl, hd⟩
  obtain ⟨cs, n, p', hp', st, wr, hn⟩ := hd.out
  have ST2 := Lib.hid st
  have W2 := Lib.hid wr
  clear hd st wr D1
  go_wp2_with fail
  refine (pick_any hi w.heap.size p' 5 _ ST2.out.rd (by omega) (by omega) (by omega)).mono ?_
  rintro e w3 ⟨q, rfl, hq, d3, o3, z3⟩
  have ST3 := Lib.hid (ST2.out.pick d3 o3)
  have W3 := Lib.hid (W2.out.pick o3 hz1)
  have hz3 := o3.size
  clear d3 o3 z3 ST2 W2
  go_wp2_with fail
  go_ret2
  exact ⟨_, _, rfl, Lib.hid ⟨cs, n, st_below B1.out ST3.out (Nat.le_refl _), W3.out.sl.mono hz3, hn, by omega, by omega⟩⟩

end Go.Proofs.Ythbkimojbbkeiaa
