/- Draws of stowages: l92Stowage and the three draws. -/
import Derived.Test.YtldjnfcdmhcjdaaStowDr
import Derived.RegionTactic
namespace Go.Proofs.Ytldjnfcdmhcjdaa
open Go.RowKit

set_option maxHeartbeats 1000000 in
theorem l92Stowage_any (lo R p : Nat) (w : World) (hr : Rd w lo R p) (hp : p ≤ 900000) :
    Calls Try.prog 68 #[.pointer (some ⟨R, 0, none⟩)] w fun e w' => ∃ v0 v1 xs ts p', e = .returned (.tuple #[v0, v1]) ∧ p' ≤ p + 40 ∧ St w w' lo R p' ∧ Wr w' w.heap.size w'.heap.size v0 xs ∧ xs.length ≤ 13 ∧ Wr w' w.heap.size w'.heap.size v1 ts ∧ ts.length ≤ 13 ∧ Src w' v1 ts := by
  have hRw := hr.lt
  go_enter Try.func68, Try.ntmps68
  go_wp2_with fail
  refine (l92Orders_any lo R p 8 w hr hp (by omega)).mono ?_
  rintro e w1 ⟨v0, xs, p1, rfl, hp1, s1, r1, l1⟩
  have z1 := s1.gr.size
  go_wp2_with fail
  refine (stowMake_any _ xs _ w1 r1.sl l1).mono ?_
  rintro e w2 ⟨v1, o, ok, rfl, b2, o2, l2, -⟩
  have z2 := b2.size
  have S2 := Lib.hid (s1.below (b2.mono z1))
  have R2 := Lib.hid (r1.old b2)
  have O2 := Lib.hid o2
  have r1' := r1
  obtain ⟨a, n, cap, rfl, hl, hn, hcap, hcap2, -⟩ := r1'
  have HL := Lib.hid hl
  clear s1 r1 b2 o2 hl
  cases ok with
  | false =>
    have hmk := fun w => mkInts w n (by omega)
    go_wp2
    go_region
    have z := OwI.zeros w2 w2.heap.size n (Nat.le_refl _) (by omega)
    have bz : Below w2.heap.size w2 (w2.alloc (.cells (Array.replicate n (.int .i64 0)) 3)).drew := below_drewN ((Below.refl _ w2).alloc (Nat.le_refl _) _) 1
    have z' := z.drewN 1
    have S3 := Lib.hid (S2.out.below (bz.mono (by omega)))
    have R3 := Lib.hid (R2.out.old bz)
    have Z3 := Lib.hid z'
    have hz3 := bz.size
    clear z bz z' S2 R2 O2
    go_wp2
    go_ret2
    exact ⟨_, _, xs, _, _, rfl, by omega, S3.out, R3.out.mono (Nat.le_refl _) (by omega), l1, (Z3.out.wr (by simp; omega)).mono (by omega) (Nat.le_refl _), by have := HL.out; simp; omega, Z3.out.src⟩
  | true =>
    have n0 := OwI.new w2 w2.heap.size 0 #[] (Nat.le_refl _) (by unfold maxLen; omega) rfl
    have b0 : Below w2.heap.size w2 (w2.alloc (.cells #[] 3)) := (Below.refl _ w2).alloc (Nat.le_refl _) _
    have s0 := (O2.out.below b0).src
    have hz0 := b0.size
    have N0 := Lib.hid n0
    have SR := Lib.hid s0
    clear n0 b0 s0
    go_upto_region 6 with (at_builtin; refine wpList_app N0.out SR.out (by rfl) (by rfl) (by rfl) (by rfl) (by simp) (by omega) hz0 ?_; intro v3 w3 own3 b3 g3; rw [List.nil_append] at own3; replace b3 := Lib.hid b3; replace own3 := Lib.hid own3; clear g3)
    have bw : Below w2.heap.size w2 w3 := ((Below.refl _ w2).alloc (Nat.le_refl _) _).trans b3.out
    have hz3 := bw.size
    have S3 := Lib.hid (S2.out.below (bw.mono (by omega)))
    have R3 := Lib.hid (R2.out.old bw)
    clear bw b3 S2 R2 O2 N0 SR
    obtain ⟨ad, L, c, rfl, HF⟩ := own3.out.form3
    have hL13 : L ≤ 13 := by rw [← HF.out]; exact l2
    clear hz0
    by_cases h0 : L = 0
    · subst h0
      go_wp2
      go_ret2
      exact ⟨_, _, xs, _, _, rfl, by omega, S3.out, R3.out.mono (Nat.le_refl _) (by omega), l1, (own3.out.wr (by omega)).mono (by omega) (Nat.le_refl _), l2, own3.out.src⟩
    · have hd : decide ((0 : Int) < (L : Int)) = true := decide_eq_true (by omega)
      have hd2 : decide (0 < L) = true := decide_eq_true (by omega)
      go_wp2_with fail
      refine (pick_any lo R p1 2 _ S3.out.rd (by omega) (by omega) (by omega)).mono ?_
      rintro e w4 ⟨m, rfl, hm, d4, o4, z4⟩
      have S4 := Lib.hid (S3.out.pick d4 o4)
      have R4 := Lib.hid (R3.out.out o4 (.inr (by omega)))
      have W4 := Lib.hid (own3.out.pick o4 (by omega))
      clear d4 o4 S3 R3 own3
      by_cases hm0 : m = 0
      · subst hm0
        go_wp2_with fail
        refine (pick_any lo R (p1 + 1) L _ S4.out.rd (by omega) (by omega) (by omega)).mono ?_
        rintro e w5 ⟨q, rfl, hq, d5, o5, z5⟩
        have S5 := Lib.hid (S4.out.pick d5 o5)
        have R5 := Lib.hid (R4.out.out o5 (.inr (by omega)))
        have W5 := Lib.hid (W4.out.pick o5 (by omega))
        clear d5 o5 S4 R4 W4
        go_wp2_with fail
        refine (pick_any lo R (p1 + 1 + 1) 7 _ S5.out.rd (by omega) (by omega) (by omega)).mono ?_
        rintro e w6 ⟨q7, rfl, hq7, d6, o6, z6⟩
        have S6 := Lib.hid (S5.out.pick d6 o6)
        have R6 := Lib.hid (R5.out.out o6 (.inr (by omega)))
        have W6 := Lib.hid (W5.out.pick o6 (by omega))
        clear d6 o6 S5 R5 W5
        obtain ⟨g, cg, he, hgB, hgw, hcp, hcp2, hcs, hfz⟩ := W6.out.form (by rw [HF.out]; omega)
        simp only [Value.slice.injEq] at he
        obtain ⟨rfl, -, rfl⟩ := he
        have hcq := hcs q (by rw [HF.out]; exact hq)
        have hfq := hfz q
        clear hcs hfz
        go_wp2
        have bs : Below w2.heap.size w6 (w6.setCell ⟨g, q, none⟩ (.int .i64 ((q7 : Int) - 1))) := (Below.refl _ _).setCell (p := ⟨g, q, none⟩) hgB _
        have hzs := bs.size
        have S7 := Lib.hid (S6.out.below (bs.mono (by omega)))
        have R7 := Lib.hid (R6.out.of_block fun k hk h1 h2 => bs.block k (by omega))
        have W7 := Lib.hid (W6.out.set q ((q7 : Int) - 1))
        clear bs S6 R6 W6 hcq hfq
        go_ret2
        exact ⟨_, _, xs, _, _, rfl, by omega, S7.out, R7.out.mono (Nat.le_refl _) (by omega), l1, (W7.out.wr (by rw [List.length_set]; omega)).mono (by omega) (Nat.le_refl _), by rw [List.length_set]; omega, W7.out.src⟩
      · have hb : ((m : Int) == 0) = false := by rw [beq_eq_false_iff_ne]; omega
        go_wp2
        go_ret2
        exact ⟨_, _, xs, _, _, rfl, by omega, S4.out, R4.out.mono (Nat.le_refl _) (by omega), l1, (W4.out.wr (by omega)).mono (by omega) (Nat.le_refl _), l2, W4.out.src⟩

theorem drawStowageValid_any (v : Value) (n hi : Nat) (w : World) (hv : By w hi v n) (hhi : hi ≤ w.heap.size) :
    Calls Try.prog 48 #[v] w fun e w' => ∃ v0 v1 xs ts, e = .returned (.tuple #[v0, v1]) ∧ Below w.heap.size w w' ∧ Wr w' w.heap.size w'.heap.size v0 xs ∧ xs.length ≤ 13 ∧ Wr w' w.heap.size w'.heap.size v1 ts ∧ ts.length ≤ 13 ∧ Src w' v1 ts := by
  go_enter Try.func48, Try.ntmps48
  go_wp2_with fail
  refine (l6Open_any v n hi w hv hhi).mono ?_
  rintro e w1 ⟨rfl, b1, d1⟩
  go_wp2_with fail
  refine (l92Stowage_any hi w.heap.size 0 w1 d1 (by omega)).mono ?_
  rintro e w2 ⟨v0, v1, xs, ts, p2, rfl, hp2, s2, r2, l2, t2, lt2, sr⟩
  have z2 := d1.lt
  have b3 := s2.all b1 rfl
  clear s2 d1
  have SR := Lib.hid sr
  clear sr
  go_wp2
  go_ret2
  exact ⟨_, _, xs, ts, rfl, b3, r2.mono (by omega) (Nat.le_refl _), l2, t2.mono (by omega) (Nat.le_refl _), lt2, SR.out⟩

theorem drawStowageMost_any (v : Value) (n hi : Nat) (w : World) (hv : By w hi v n) (hhi : hi ≤ w.heap.size) :
    Calls Try.prog 49 #[v] w fun e w' => ∃ v0 v1 xs ts, e = .returned (.tuple #[v0, v1]) ∧ Below w.heap.size w w' ∧ Wr w' w.heap.size w'.heap.size v0 xs ∧ xs.length ≤ 13 ∧ Wr w' w.heap.size w'.heap.size v1 ts ∧ ts.length ≤ 13 ∧ Src w' v1 ts := by
  go_enter Try.func49, Try.ntmps49
  go_wp2_with fail
  refine (l6Open_any v n hi w hv hhi).mono ?_
  rintro e w1 ⟨rfl, b1, d1⟩
  go_wp2_with fail
  refine (l92Stowage_any hi w.heap.size 0 w1 d1 (by omega)).mono ?_
  rintro e w2 ⟨v0, v1, xs, ts, p2, rfl, hp2, s2, r2, l2, t2, lt2, sr⟩
  have z2 := d1.lt
  have b3 := s2.all b1 rfl
  clear s2 d1
  have SR := Lib.hid sr
  clear sr
  go_wp2
  go_ret2
  exact ⟨_, _, xs, ts, rfl, b3, r2.mono (by omega) (Nat.le_refl _), l2, t2.mono (by omega) (Nat.le_refl _), lt2, SR.out⟩

theorem drawStowageOut_any (v : Value) (n hi : Nat) (w : World) (hv : By w hi v n) (hhi : hi ≤ w.heap.size) :
    Calls Try.prog 50 #[v] w fun e w' => ∃ v0 v1 xs ts, e = .returned (.tuple #[v0, v1]) ∧ Below w.heap.size w w' ∧ Wr w' w.heap.size w'.heap.size v0 xs ∧ xs.length ≤ 13 ∧ Wr w' w.heap.size w'.heap.size v1 ts ∧ ts.length ≤ 13 ∧ Src w' v1 ts := by
  go_enter Try.func50, Try.ntmps50
  go_wp2_with fail
  refine (l6Open_any v n hi w hv hhi).mono ?_
  rintro e w1 ⟨rfl, b1, d1⟩
  go_wp2_with fail
  refine (l92Stowage_any hi w.heap.size 0 w1 d1 (by omega)).mono ?_
  rintro e w2 ⟨v0, v1, xs, ts, p2, rfl, hp2, s2, r2, l2, t2, lt2, sr⟩
  have z2 := d1.lt
  have b3 := s2.all b1 rfl
  clear s2 d1
  have SR := Lib.hid sr
  clear sr
  go_wp2
  go_ret2
  exact ⟨_, _, xs, ts, rfl, b3, r2.mono (by omega) (Nat.le_refl _), l2, t2.mono (by omega) (Nat.le_refl _), lt2, SR.out⟩

end Go.Proofs.Ytldjnfcdmhcjdaa
