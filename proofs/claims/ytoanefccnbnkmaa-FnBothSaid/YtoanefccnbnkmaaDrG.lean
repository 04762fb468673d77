/- The draw of FnFind. -/
import Derived.Test.YtoanefccnbnkmaaDrF
import Derived.Test.YtoanefccnbnkmaaFault
import Derived.BigQuiet
namespace Go.Proofs.Ytoanefccnbnkmaa
open Go.RowKit

theorem specFaultOpen_is2 {A B : Int} {p : Bool} (v : Value) (m f : Int) (cs : List Int) (n hi : Nat) (w : World) (hv : SlF 3 w hi v cs n) (h : opA cs n m f = A ∧ opB cs n m f = B ∧ fvB cs n m f = p) :
    Calls Try.prog 56 #[v, .agg #[.int .i64 m, .int .i64 f]] w fun e w' => e = .returned (.tuple #[.int .i64 A, .int .i64 B, .bool p]) ∧ Below w.heap.size w w' := by
  obtain ⟨rfl, rfl, rfl⟩ := h
  exact specFaultOpen_b v m f cs n hi w hv
theorem op_lim {cs : List Int} {n : Nat} {m f : Int} : (0 ≤ opA cs n m f ∧ opA cs n m f ≤ 9000) ∧ (0 ≤ opB cs n m f ∧ opB cs n m f ≤ 9000) := by
  cases h : fvB cs n m f with
  | false => unfold opA opB; rw [h]; simp
  | true =>
    have hs := sides_of h
    have hf := (fvB_cab h).2.2
    unfold opA opB; rw [h]; simp only [if_true]; omega
/-- What is left of a draw that has read its code through a new reader. -/
theorem st_below {w w1 w2 : World} {lo R p : Nat} (B1 : Below w.heap.size w w1) (st : St w1 w2 lo R p) (hR : w.heap.size ≤ R) : Below w.heap.size w w2 :=
  ⟨st.gr.os.trans B1.os, st.gr.tape.trans B1.tape, st.gr.output.trans B1.output, Nat.le_trans B1.size st.gr.size, fun j hj => (st.gr.block j (by have := B1.size; omega) (by simp; omega)).trans (B1.block j hj)⟩

set_option maxRecDepth 100000 in
set_option maxHeartbeats 1000000 in
theorem drawFaultFind_any (v : Value) (n hi : Nat) (w : World) (hv : By w hi v n) (hhi : hi ≤ w.heap.size) :
    Calls Try.prog 43 #[v] w fun e w' => ∃ r a b, e = .returned (.tuple #[r, .int .i64 a, .int .i64 b]) ∧ Hid (∃ cs k, Below w.heap.size w w' ∧ SlF 3 w' w'.heap.size r cs k ∧ (-1 ≤ a ∧ a ≤ 9000) ∧ (-1 ≤ b ∧ b ≤ 9000)) := by
  go_enter Try.func43, Try.ntmps43
  go_wp2_with fail
  refine (l6Open_any v n hi w hv hhi).mono ?_
  rintro e w1 ⟨rfl, b1, d1⟩
  have hz1 := d1.lt
  have B1 := Lib.hid b1
  have D1 := Lib.hid d1
  clear b1 d1 hv
  go_wp2_with fail
  refine (l91Fault_any hi w.heap.size 0 w1 D1.out (by omega)).mono ?_
  rintro e w2 ⟨r, m, f, rfl, hd⟩
  obtain ⟨cs, k, p, hp, st, wr, hk, hm, hf⟩ := hd.out
  obtain ⟨y0, y1, y2⟩ := box2 w2 m f 41
  have hz2 := st.gr.size
  have ST3 := Lib.hid (st.below (y0.mono hz2))
  have S3 := Lib.hid (wr.old y0)
  have hz3 := y0.size
  clear hd st wr y0 D1
  obtain ⟨A, hA⟩ : ∃ A, opA cs k m f = A := ⟨_, rfl⟩
  obtain ⟨B, hB⟩ : ∃ B, opB cs k m f = B := ⟨_, rfl⟩
  obtain ⟨q, hq⟩ : ∃ q, fvB cs k m f = q := ⟨_, rfl⟩
  have hbd := op_lim (cs := cs) (n := k) (m := m) (f := f)
  rw [hA, hB] at hbd
  have HO := Lib.hid (And.intro hA (And.intro hB hq))
  clear hA hB hq
  obtain ⟨⟨hA1, hA2⟩, hB1, hB2⟩ := hbd
  go_wp2_with fail
  refine (specFaultOpen_is2 _ m f cs k _ _ S3.out.sl HO.out).mono ?_
  rintro e w4 ⟨rfl, b4⟩
  have ST4 := Lib.hid (ST3.out.below (b4.mono (Nat.le_trans hz2 hz3)))
  have S4 := Lib.hid (S3.out.old b4)
  have hz4 : w2.heap.size ≤ w4.heap.size := Nat.le_trans hz3 b4.size
  clear b4 S3 ST3 hz3 y1 y2
  cases q with
  | true =>
    go_wp2_with fail
    refine (pick_any hi w.heap.size p 5 _ ST4.out.rd (by omega) (by omega) (by omega)).mono ?_
    rintro e w5 ⟨t, rfl, ht, d5, o5, z5⟩
    have ST5 := Lib.hid (ST4.out.pick d5 o5)
    have S5 : Hid (WrF 3 76 w5 w1.heap.size w2.heap.size r cs k) := Lib.hid (S4.out.pick o5 hz1)
    have hz5 : w2.heap.size ≤ w5.heap.size := Nat.le_trans hz4 o5.size
    clear d5 o5 z5 S4 ST4
    by_cases ht0 : t = 0
    · subst ht0
      go_wp2_with fail
      refine (pick_any hi w.heap.size (p + 1) 60 _ ST5.out.rd (by omega) (by omega) (by omega)).mono ?_
      rintro e w6 ⟨u, rfl, hu, d6, o6, z6⟩
      have ST6 := Lib.hid (ST5.out.pick d6 o6)
      have S6 : Hid (WrF 3 76 w6 w1.heap.size w2.heap.size r cs k) := Lib.hid (S5.out.pick o6 hz1)
      have hz6 : w2.heap.size ≤ w6.heap.size := Nat.le_trans hz5 o6.size
      clear d6 o6 z6 S5 ST5
      go_wp2_with fail
      refine (pick_any hi w.heap.size (p + 1 + 1) 60 _ ST6.out.rd (by omega) (by omega) (by omega)).mono ?_
      rintro e w7 ⟨u2, rfl, hu2, d7, o7, z7⟩
      have ST7 := Lib.hid (ST6.out.pick d7 o7)
      have S7 : Hid (WrF 3 76 w7 w1.heap.size w2.heap.size r cs k) := Lib.hid (S6.out.pick o7 hz1)
      have hz7 : w2.heap.size ≤ w7.heap.size := Nat.le_trans hz6 o7.size
      clear d7 o7 z7 S6 ST6
      go_wp2
      go_ret3
      exact ⟨_, _, _, rfl, Lib.hid ⟨cs, k, st_below B1.out ST7.out (Nat.le_refl _), S7.out.sl.mono hz7, by omega, by omega⟩⟩
    · have ht1 : decide ((0 : Int) < (t : Int)) = true := by simp; omega
      go_wp2
      go_ret3
      exact ⟨_, _, _, rfl, Lib.hid ⟨cs, k, st_below B1.out ST5.out (Nat.le_refl _), S5.out.sl.mono hz5, by omega, by omega⟩⟩
  | false =>
    go_wp2_with fail
    refine (pick_any hi w.heap.size p 60 _ ST4.out.rd (by omega) (by omega) (by omega)).mono ?_
    rintro e w6 ⟨u, rfl, hu, d6, o6, z6⟩
    have ST6 := Lib.hid (ST4.out.pick d6 o6)
    have S6 : Hid (WrF 3 76 w6 w1.heap.size w2.heap.size r cs k) := Lib.hid (S4.out.pick o6 hz1)
    have hz6 : w2.heap.size ≤ w6.heap.size := Nat.le_trans hz4 o6.size
    clear d6 o6 z6 S4 ST4
    go_wp2_with fail
    refine (pick_any hi w.heap.size (p + 1) 60 _ ST6.out.rd (by omega) (by omega) (by omega)).mono ?_
    rintro e w7 ⟨u2, rfl, hu2, d7, o7, z7⟩
    have ST7 := Lib.hid (ST6.out.pick d7 o7)
    have S7 : Hid (WrF 3 76 w7 w1.heap.size w2.heap.size r cs k) := Lib.hid (S6.out.pick o7 hz1)
    have hz7 : w2.heap.size ≤ w7.heap.size := Nat.le_trans hz6 o7.size
    clear d7 o7 z7 S6 ST6
    go_wp2
    go_ret3
    exact ⟨_, _, _, rfl, Lib.hid ⟨cs, k, st_below B1.out ST7.out (Nat.le_refl _), S7.out.sl.mono hz7, by omega, by omega⟩⟩

end Go.Proofs.Ytoanefccnbnkmaa
