/- Draws: l91At; DrawOrdersAgree. -/
import Derived.Test.YtldjnfcdmhcjdaaDr
namespace Go.Proofs.Ytldjnfcdmhcjdaa
open Go.RowKit

theorem l91At_any (lo R p n : Nat) (w : World) (hr : Rd w lo R p) (hp : p ≤ 900100) (hm : n ≤ 20) :
    Calls Try.prog 65 #[.pointer (some ⟨R, 0, none⟩), .int .i64 (n : Int)] w fun e w' => ∃ (m : Int) (p' : Nat), e = .returned (.int .i64 m) ∧ p' ≤ p + 2 ∧ St w w' lo R p' ∧ -1 ≤ m ∧ m ≤ n := by
  have hRw := hr.lt
  by_cases hn0 : n = 0
  · subst hn0
    have ha : Below w.heap.size w (w.alloc (.cells #[.int .i64 (-1), .int .i64 0] 3)) := (Below.refl _ _).alloc (Nat.le_refl _) _
    have sta := (St.start hr).below ha
    have rowa := Row.new w #[.int .i64 (-1), .int .i64 0] 3
    have STA := Lib.hid sta
    have ROWA := Lib.hid rowa
    clear ha sta rowa
    go_enter Try.func65, Try.ntmps65
    go_wp2_with fail
    refine (pick_any lo R p 2 _ STA.out.rd (by omega) (by omega) (by omega)).mono ?_
    rintro e w3 ⟨m, rfl, hm2, d3, o3, z3⟩
    have st3 := STA.out.pick d3 o3
    have row3 : Row w3 w.heap.size 3 #[.int .i64 (-1), .int .i64 0] := (o3.block w.heap.size (by simp) (.inr (by omega))).trans ROWA.out
    have k0 : w3.cell? ⟨w.heap.size, 0, none⟩ = some (.int .i64 (-1)) := by rw [row3.cell]; rfl
    have k1 : w3.cell? ⟨w.heap.size, 1, none⟩ = some (.int .i64 0) := by rw [row3.cell]; rfl
    have ST3 := Lib.hid st3
    clear st3 row3 d3 o3 z3 STA ROWA
    rcases (by omega : m = 0 ∨ m = 1) with rfl | rfl
    · go_wp2
      go_ret
      exact ⟨-1, _, rfl, by omega, ST3.out, by omega, by omega⟩
    · go_wp2
      go_ret
      exact ⟨0, _, rfl, by omega, ST3.out, by omega, by omega⟩
  · have hb : ((n : Int) == 0) = false := by rw [beq_eq_false_iff_ne]; omega
    go_enter Try.func65, Try.ntmps65
    go_wp2_with fail
    refine (pick_any lo R p 20 _ hr (by omega) (by omega) (by omega)).mono ?_
    rintro e w1 ⟨q, rfl, hq, d1, o1, z1⟩
    have st1 := (St.start hr).pick d1 o1
    by_cases hq0 : q = 0
    · subst hq0
      have ha : Below w1.heap.size w1 (w1.alloc (.cells #[.int .i64 (-1), .int .i64 (n : Int)] 3)) := (Below.refl _ _).alloc (Nat.le_refl _) _
      have sta := st1.below (ha.mono (by omega))
      have rowa := Row.new w1 #[.int .i64 (-1), .int .i64 (n : Int)] 3
      have hR1 : R < w1.heap.size := by omega
      have STA := Lib.hid sta
      have ROWA := Lib.hid rowa
      clear ha sta rowa st1 d1 o1 z1
      go_wp2_with fail
      refine (pick_any lo R (p + 1) 2 _ STA.out.rd (by omega) (by omega) (by omega)).mono ?_
      rintro e w3 ⟨m, rfl, hm2, d3, o3, z3⟩
      have st3 := STA.out.pick d3 o3
      have row3 : Row w3 w1.heap.size 3 #[.int .i64 (-1), .int .i64 (n : Int)] := (o3.block w1.heap.size (by simp) (.inr (by omega))).trans ROWA.out
      have k0 : w3.cell? ⟨w1.heap.size, 0, none⟩ = some (.int .i64 (-1)) := by rw [row3.cell]; rfl
      have k1 : w3.cell? ⟨w1.heap.size, 1, none⟩ = some (.int .i64 (n : Int)) := by rw [row3.cell]; rfl
      have ST3 := Lib.hid st3
      clear st3 row3 d3 o3 z3 STA ROWA
      rcases (by omega : m = 0 ∨ m = 1) with rfl | rfl
      · go_wp2
        go_ret
        exact ⟨-1, _, rfl, by omega, ST3.out, by omega, by omega⟩
      · go_wp2
        go_ret
        exact ⟨n, _, rfl, by omega, ST3.out, by omega, by omega⟩
    · have hb0 : ((q : Int) == 0) = false := by rw [beq_eq_false_iff_ne]; omega
      have ST1 := Lib.hid st1
      clear st1 d1 o1 z1
      go_wp2_with fail
      refine (pick_any lo R (p + 1) n _ ST1.out.rd (by omega) (by omega) (by omega)).mono ?_
      rintro e w3 ⟨m, rfl, hm2, d3, o3, z3⟩
      have ST3 := Lib.hid (ST1.out.pick d3 o3)
      clear d3 o3 z3 ST1
      go_wp2
      go_ret
      exact ⟨m, _, rfl, by omega, ST3.out, by omega, by omega⟩

/-- A draw: from a reader that is new. -/
theorem St.all {w wa w' : World} {hi R p : Nat} (hb : Below w.heap.size w wa) (hR : R = w.heap.size) (h : St wa w' hi R p) : Below w.heap.size w w' :=
  ⟨h.gr.os.trans hb.os, h.gr.tape.trans hb.tape, h.gr.output.trans hb.output, Nat.le_trans hb.size h.gr.size, fun k hk => (h.gr.block k (Nat.lt_of_lt_of_le hk hb.size) (by subst hR; simp; omega)).trans (hb.block k hk)⟩
theorem St.trans {w0 w1 w2 : World} {lo R p p' : Nat} (h : St w0 w1 lo R p) (k : St w1 w2 lo R p') : St w0 w2 lo R p' := ⟨k.rd, grow2 h.gr k.gr, h.old⟩
theorem Wr.st {w0 w' : World} {lo hi b R p : Nat} {v : Value} {xs : List Int} (h : Wr w0 b hi v xs) (k : St w0 w' lo R p) (hR : R < b) : Wr w' b hi v xs :=
  h.of_block fun j hj h1 _ => k.gr.block j hj (by simp; omega)

theorem drawOrdersAgree_any (v : Value) (n hi : Nat) (w : World) (hv : By w hi v n) (hhi : hi ≤ w.heap.size) :
    Calls Try.prog 37 #[v] w fun e w' => ∃ r xs a b, e = .returned (.tuple #[r, .int .i64 a, .int .i64 b]) ∧ Below w.heap.size w w' ∧ Wr w' w.heap.size w'.heap.size r xs ∧ xs.length ≤ 13 ∧ (-1 ≤ a ∧ a ≤ 20) ∧ (-1 ≤ b ∧ b ≤ 20) := by
  go_enter Try.func37, Try.ntmps37
  go_wp2_with fail
  refine (l6Open_any v n hi w hv hhi).mono ?_
  rintro e w1 ⟨rfl, b1, d1⟩
  go_wp2_with fail
  refine (l92Orders_any hi w.heap.size 0 8 w1 d1 (by omega) (by omega)).mono ?_
  rintro e w2 ⟨r, xs, p2, rfl, hp2, s2, r2, hl2⟩
  have z2 := d1.lt
  have r2' := r2
  obtain ⟨a, m, cap, rfl, hlen, hm, hcap, hcap2, _⟩ := r2'
  go_wp2_with fail
  refine (l91At_any hi w.heap.size p2 m w2 s2.rd (by omega) (by omega)).mono ?_
  rintro e w3 ⟨A, p3, rfl, hp3, s3, hA1, hA2⟩
  have r3 := r2.st s3 z2
  have s3' := s2.trans s3
  go_wp2_with fail
  refine (l91At_any hi w.heap.size p3 m w3 s3.rd (by omega) (by omega)).mono ?_
  rintro e w4 ⟨B, p4, rfl, hp4, s4, hB1, hB2⟩
  have r4 := r3.st s4 z2
  have s4' := s3'.trans s4
  have b4 := s4'.all b1 rfl
  have hz := s4.gr.size
  have hz3 := s3.gr.size
  clear s2 s3 s4 s3' s4' r2 r3 d1
  go_wp2
  refine bodyPost_ret (by simp [results, Try.results37, go_sem]; rfl) rfl ?_
  exact ⟨_, xs, A, B, rfl, b4, r4.mono (by omega) (by omega), hl2, ⟨hA1, by omega⟩, ⟨hB1, by omega⟩⟩

end Go.Proofs.Ytldjnfcdmhcjdaa
