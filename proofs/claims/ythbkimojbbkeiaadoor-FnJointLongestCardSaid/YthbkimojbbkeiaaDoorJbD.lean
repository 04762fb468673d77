/- Draws: a joint that is asked for. -/
import Derived.Test.YthbkimojbbkeiaaDoorSpDr
namespace Go.Proofs.YthbkimojbbkeiaaDoor
open Go.RowKit

theorem stB {w w1 w2 : World} {lo R p : Nat} (B1 : Below w.heap.size w w1) (st : St w1 w2 lo R p) (hR : w.heap.size ≤ R) : Below w.heap.size w w2 :=
  ⟨st.gr.os.trans B1.os, st.gr.tape.trans B1.tape, st.gr.output.trans B1.output, Nat.le_trans B1.size st.gr.size, fun j hj => (st.gr.block j (by have := B1.size; omega) (by simp; omega)).trans (B1.block j hj)⟩
def JnD (w w' : World) (lo R p : Nat) (v : Value) (k m : Int) : Prop := ∃ cs n p', p' ≤ p + 70 ∧ St w w' lo R p' ∧ SlF 2 w' w'.heap.size v cs n ∧ n ≤ 12 ∧ (0 ≤ k ∧ k ≤ 1) ∧ (-30 ≤ m ∧ m ≤ 530)
theorem l91Joint_any (lo R p : Nat) (w : World) (hr : Rd w lo R p) (hp : p ≤ 900000) :
    Calls Tryd.prog 25 #[.pointer (some ⟨R, 0, none⟩)] w fun e w' => ∃ v k m, e = .returned (.tuple #[v, .int .i64 k, .int .i64 m]) ∧ Hid (JnD w w' lo R p v k m) := by
  have hRw := hr.lt
  have HR0 := Lib.hid hr
  clear hr
  go_enter Tryd.func25, Tryd.ntmps25
  go_wp2_with fail
  refine (l91Spares_any lo R p 7 w HR0.out (by omega) (by omega)).mono ?_
  rintro e w2 ⟨v1, rfl, hd⟩
  obtain ⟨cs, n, p', hp', st, wr, hn⟩ := hd.out
  have ST2 := Lib.hid st
  have W2 := Lib.hid wr
  clear hd st wr HR0
  go_wp2_with fail
  refine (pick_any lo R p' 3 _ ST2.out.rd (by omega) (by omega) (by omega)).mono ?_
  rintro e w3 ⟨q, rfl, hq, d3, o3, z3⟩
  have ST3 := Lib.hid (ST2.out.pick d3 o3)
  have W3 := Lib.hid (W2.out.out o3 (.inr (by omega)))
  have hz3 := o3.size
  have hq1 : (q : Int).tdiv 2 = ((q / 2 : Nat) : Int) := by rw [Int.tdiv_eq_ediv_of_nonneg (by omega)]; rfl
  have hq2 : q / 2 ≤ 1 := by omega
  clear d3 o3 z3 ST2 W2
  revert hq1 hq2
  generalize q / 2 = qq
  intro hq1 hq2
  go_wp2_with fail
  refine (pick_any lo R (p' + 1) 30 _ ST3.out.rd (by omega) (by omega) (by omega)).mono ?_
  rintro e w4 ⟨u, rfl, hu, d4, o4, z4⟩
  have ST4 := Lib.hid (ST3.out.pick d4 o4)
  have W4 := Lib.hid (W3.out.out o4 (.inr (by omega)))
  have hz4 := o4.size
  clear d4 o4 z4 ST3 W3
  go_wp2_with fail
  refine (pick_any lo R (p' + 1 + 1) 20 _ ST4.out.rd (by omega) (by omega) (by omega)).mono ?_
  rintro e w5 ⟨a, rfl, ha, d5, o5, z5⟩
  have ST5 := Lib.hid (ST4.out.pick d5 o5)
  have W5 := Lib.hid (W4.out.out o5 (.inr (by omega)))
  have hz5 := o5.size
  have ha1 : (a : Int).tdiv 19 = ((a / 19 : Nat) : Int) := by rw [Int.tdiv_eq_ediv_of_nonneg (by omega)]; rfl
  have ha2 : a / 19 ≤ 1 := by omega
  clear d5 o5 z5 ST4 W4
  revert ha1 ha2
  generalize a / 19 = aa
  intro ha1 ha2
  go_wp2_with fail
  refine (pick_any lo R (p' + 1 + 1 + 1) 20 _ ST5.out.rd (by omega) (by omega) (by omega)).mono ?_
  rintro e w6 ⟨b, rfl, hb, d6, o6, z6⟩
  have ST6 := Lib.hid (ST5.out.pick d6 o6)
  have W6 := Lib.hid (W5.out.out o6 (.inr (by omega)))
  have hz6 := o6.size
  have hb1 : (b : Int).tdiv 19 = ((b / 19 : Nat) : Int) := by rw [Int.tdiv_eq_ediv_of_nonneg (by omega)]; rfl
  have hb2 : b / 19 ≤ 1 := by omega
  clear d6 o6 z6 ST5 W5
  revert hb1 hb2
  generalize b / 19 = bb
  intro hb1 hb2
  have FIN := Lib.hid (fun (k m : Int) (h1 : 0 ≤ k ∧ k ≤ 1) (h2 : -30 ≤ m ∧ m ≤ 530) => (show JnD w w6 lo R p v1 k m from ⟨cs, n, _, (by omega : p' + 1 + 1 + 1 + 1 ≤ p + 70), ST6.out, W6.out.sl.mono (by omega), hn, h1, h2⟩))
  go_wp2_with fail
  refine bodyPost_ret (by simp [results, Tryd.results25, go_sem]; rfl) rfl ?_
  exact ⟨_, _, _, rfl, Lib.hid (FIN.out _ _ (by omega) (by omega))⟩

theorem drawJointFewest_any (v : Value) (n hi : Nat) (w : World) (hv : By w hi v n) (hhi : hi ≤ w.heap.size) :
    Calls Tryd.prog 8 #[v] w fun e w' => ∃ v1 k m, e = .returned (.tuple #[v1, .int .i64 k, .int .i64 m]) ∧ Hid (∃ cs n, Below w.heap.size w w' ∧ SlF 2 w' w'.heap.size v1 cs n ∧ n ≤ 12 ∧ (0 ≤ k ∧ k ≤ 1) ∧ (-30 ≤ m ∧ m ≤ 530)) := by
  go_enter Tryd.func8, Tryd.ntmps8
  go_wp2_with fail
  refine (l6Open_any v n hi w hv hhi).mono ?_
  rintro e w1 ⟨rfl, b1, d1⟩
  have B1 := Lib.hid b1
  have D1 := Lib.hid d1
  clear b1 d1 hv
  go_wp2_with fail
  refine (l91Joint_any hi w.heap.size 0 w1 D1.out (by omega)).mono ?_
  rintro e w2 ⟨v1, k, m, rfl, hd⟩
  obtain ⟨cs, n, p', hp', st, s, hn, h1, h2⟩ := hd.out
  have HG := Lib.hid (And.intro (stB B1.out st (Nat.le_refl _)) s)
  clear hd st s D1 B1
  go_wp2_with fail
  refine bodyPost_ret (by simp [results, Tryd.results8, go_sem]; rfl) rfl ?_
  exact ⟨_, _, _, rfl, Lib.hid ⟨cs, n, HG.out.1, HG.out.2, hn, h1, h2⟩⟩
theorem drawJointBest_any (v : Value) (n hi : Nat) (w : World) (hv : By w hi v n) (hhi : hi ≤ w.heap.size) :
    Calls Tryd.prog 17 #[v] w fun e w' => ∃ v1 k m, e = .returned (.tuple #[v1, .int .i64 k, .int .i64 m]) ∧ Hid (∃ cs n, Below w.heap.size w w' ∧ SlF 2 w' w'.heap.size v1 cs n ∧ n ≤ 12 ∧ (0 ≤ k ∧ k ≤ 1) ∧ (-30 ≤ m ∧ m ≤ 530)) := by
  go_enter Tryd.func17, Tryd.ntmps17
  go_wp2_with fail
  refine (l6Open_any v n hi w hv hhi).mono ?_
  rintro e w1 ⟨rfl, b1, d1⟩
  have B1 := Lib.hid b1
  have D1 := Lib.hid d1
  clear b1 d1 hv
  go_wp2_with fail
  refine (l91Joint_any hi w.heap.size 0 w1 D1.out (by omega)).mono ?_
  rintro e w2 ⟨v1, k, m, rfl, hd⟩
  obtain ⟨cs, n, p', hp', st, s, hn, h1, h2⟩ := hd.out
  have HG := Lib.hid (And.intro (stB B1.out st (Nat.le_refl _)) s)
  clear hd st s D1 B1
  go_wp2_with fail
  refine bodyPost_ret (by simp [results, Tryd.results17, go_sem]; rfl) rfl ?_
  exact ⟨_, _, _, rfl, Lib.hid ⟨cs, n, HG.out.1, HG.out.2, hn, h1, h2⟩⟩

end Go.Proofs.YthbkimojbbkeiaaDoor
