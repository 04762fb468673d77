/- The reader of codes: l6Open, pick. -/
import Derived.Test.YtoanefccnbnkmaaRow
import Derived.Test.YtoanefccnbnkmaaBits
namespace Go.Proofs.Ytoanefccnbnkmaa
open Go.RowKit

/-- A slice of bytes that can be read; its cells lie in blocks below hi. -/
def By (w : World) (hi : Nat) (v : Value) (n : Nat) : Prop :=
  ∃ a cap, ∃ c : Nat → Nat, v = .slice a n cap ∧ n ≤ cap ∧ cap ≤ 9223372036854775807 ∧
    (0 < n → ∃ b off, a = some ⟨b, off, none⟩ ∧ b < hi ∧ ∀ k, k < n → c k ≤ 255 ∧ w.cell? ⟨b, off + k, none⟩ = some (.int .u8 (c k : Int)))

theorem By.kept {w w' : World} {hi n : Nat} {v : Value} (h : By w hi v n) (hb : ∀ k, k < hi → w'.heap[k]? = w.heap[k]?) : By w' hi v n := by
  obtain ⟨a, cap, c, rfl, h1, h2, h3⟩ := h
  refine ⟨a, cap, c, rfl, h1, h2, fun hn => ?_⟩
  obtain ⟨b, off, rfl, hbh, hc⟩ := h3 hn
  exact ⟨b, off, rfl, hbh, fun k hk => ⟨(hc k hk).1, (World.cell?_of_block (a := ⟨b, off + k, none⟩) (hb b hbh)).trans (hc k hk).2⟩⟩

/-- A reader in block R, at place p; its code lies below lo. -/
structure Rd (w : World) (lo R p : Nat) : Prop where
  row : ∃ v n, Row w R 104 #[v, .int .i64 (p : Int)] ∧ By w lo v n ∧ n ≤ 2000
  low : lo ≤ R
  pl : p ≤ 1000000

theorem Rd.lt {w : World} {lo R p : Nat} (h : Rd w lo R p) : R < w.heap.size := by
  obtain ⟨⟨v, n, hr, _⟩, _⟩ := h
  exact hr.lt
theorem Rd.kept {w w' : World} {lo R p : Nat} (h : Rd w lo R p) (hb : ∀ k, k < R + 1 → w'.heap[k]? = w.heap[k]?) : Rd w' lo R p := by
  obtain ⟨⟨v, n, hr, hy, hn⟩, hl, hp⟩ := h
  exact ⟨⟨v, n, (hb R (by omega)).trans hr, hy.kept fun k hk => hb k (by omega), hn⟩, hl, hp⟩
theorem Rd.below {w w' : World} {lo R p : Nat} (h : Rd w lo R p) (hb : Below w.heap.size w w') : Rd w' lo R p := h.kept fun k hk => hb.block k (by have := h.lt; omega)
theorem Rd.drewN {w : World} {lo R p : Nat} (h : Rd w lo R p) (n : Nat) : Rd (w.drewN n) lo R p := h.kept fun _ _ => rfl

theorem Out.drewN {lo hi : Nat} {w w' : World} (h : Out lo hi w w') (n : Nat) : Out lo hi w (w'.drewN n) := ⟨h.os, h.tape, h.output, h.size, h.block⟩

set_option maxHeartbeats 1000000 in
theorem pick_any (lo R p n : Nat) (w : World) (hr : Rd w lo R p) (hp : p < 1000000) (hn : 1 ≤ n) (hn2 : n ≤ 1000000) :
    Calls Try.prog 76 #[.pointer (some ⟨R, 0, none⟩), .int .i64 (n : Int)] w fun e w' => ∃ m : Nat, e = .returned (.int .i64 (m : Int)) ∧ m < n ∧ Rd w' lo R (p + 1) ∧ Out R (R + 1) w w' ∧ w'.heap.size = w.heap.size := by
  obtain ⟨⟨v, L, hrow, hby, hL⟩, hlow, _⟩ := hr
  have hby0 := hby
  obtain ⟨a, cap, c, rfl, hcap, hcap2, hc⟩ := hby
  have r0 : w.cell? ⟨R, 0, none⟩ = some (.slice a L cap) := by rw [hrow.cell]; rfl
  have r1 : w.cell? ⟨R, 1, none⟩ = some (.int .i64 (p : Int)) := by rw [hrow.cell]; rfl
  have f1 := hrow.frozen 1
  have hend : Rd (w.setCell ⟨R, 1, none⟩ (.int .i64 ((p : Int) + 1))) lo R (p + 1) := ⟨⟨_, L, hrow.set 1 _, hby0.kept fun k hk => Below.heap_setCell _ _ _ _ (by show k ≠ R; omega), hL⟩, hlow, by omega⟩
  have hout : Out R (R + 1) w (w.setCell ⟨R, 1, none⟩ (.int .i64 ((p : Int) + 1))) := (Out.refl _ _ _).setCell (a := ⟨R, 1, none⟩) (Nat.le_refl _) (by show R < R + 1; omega) _
  have hsz : (w.setCell ⟨R, 1, none⟩ (.int .i64 ((p : Int) + 1))).heap.size = w.heap.size := by simp [World.setCell]
  have HEND := Lib.hid hend
  have HOUT := Lib.hid hout
  have HSZ := Lib.hid hsz
  clear hrow hby0 hend hout hsz
  have hn0 : decide ((n : Int) < 1) = false := by simp; omega
  by_cases h0 : L = 0
  · subst h0
    go_enter Try.func76, Try.ntmps76
    go_wp2
    go_ret
    exact ⟨0, rfl, by omega, HEND.out, HOUT.out, HSZ.out⟩
  · have hL0 : ((L : Int) == 0) = false := by simp; omega
    obtain ⟨b, off, rfl, hb, hc⟩ := hc (by omega)
    have hbR : b ≠ R := by omega
    by_cases hlt : p < L
    · have hck := (hc p hlt).2
      have hc1 := (hc p hlt).1
      clear hc
      have hm : ((c p : Nat) : Int).tmod (n : Int) = ((c p % n : Nat) : Int) := by rw [Int.tmod_eq_emod_of_nonneg (by omega)]; rfl
      have hml := Nat.mod_lt (c p) hn
      revert hm hml
      generalize c p % n = m
      intro hm hml
      go_enter Try.func76, Try.ntmps76
      go_wp2
      go_ret
      exact ⟨m, rfl, hml, HEND.out, HOUT.out, HSZ.out⟩
    · have hLp : 0 < L := by omega
      have hq1 := Nat.mod_lt p hLp
      have hq2 := Nat.mod_lt (p * 7 + 3) hLp
      have e1 : (p : Int).tmod (L : Int) = ((p % L : Nat) : Int) := by rw [Int.tmod_eq_emod_of_nonneg (by omega)]; rfl
      have e2 : ((p : Int) * 7 + 3).tmod (L : Int) = (((p * 7 + 3) % L : Nat) : Int) := by rw [Int.tmod_eq_emod_of_nonneg (by omega)]; rfl
      have e3 : (p : Int).tdiv (L : Int) = ((p / L : Nat) : Int) := by rw [Int.tdiv_eq_ediv_of_nonneg (by omega)]; rfl
      have hq3 : p / L ≤ p := Nat.div_le_self _ _
      revert hq1 hq2 e1 e2 e3 hq3
      generalize p % L = q1
      generalize (p * 7 + 3) % L = q2
      generalize p / L = q3
      intro hq1 hq2 e1 e2 e3 hq3
      have hk1 := (hc q1 hq1).2
      have hk2 := (hc q2 hq2).2
      have hb1 := (hc q1 hq1).1
      have hb2 := (hc q2 hq2).1
      clear hc
      revert hk1 hk2 hb1 hb2
      generalize c q1 = c1
      generalize c q2 = c2
      intro hk1 hk2 hb1 hb2
      have eX : bits .xor .i64 ((c1 * 131 + c2 * 1117 + p * 29 + q3 * 53 : Nat) : Int) ((c1 * 131 + c2 * 1117 + p * 29 + q3 * 53 : Nat) / 64 : Int) = (((c1 * 131 + c2 * 1117 + p * 29 + q3 * 53) ^^^ ((c1 * 131 + c2 * 1117 + p * 29 + q3 * 53) / 64) : Nat) : Int) := by
        have := i64_xor (c1 * 131 + c2 * 1117 + p * 29 + q3 * 53) ((c1 * 131 + c2 * 1117 + p * 29 + q3 * 53) / 64) (by omega) (by omega)
        rw [← this]; rfl
      have hsum : (c1 : Int) * 131 + (c2 : Int) * 1117 + (p : Int) * 29 + (q3 : Int) * 53 = ((c1 * 131 + c2 * 1117 + p * 29 + q3 * 53 : Nat) : Int) := by omega
      have hX : c1 * 131 + c2 * 1117 + p * 29 + q3 * 53 ≤ 1000000000 := by omega
      have hY : (c1 * 131 + c2 * 1117 + p * 29 + q3 * 53) ^^^ ((c1 * 131 + c2 * 1117 + p * 29 + q3 * 53) / 64) < 2 ^ 62 := Nat.xor_lt_two_pow (by omega) (by omega)
      revert eX hsum hX hY
      generalize (c1 * 131 + c2 * 1117 + p * 29 + q3 * 53) ^^^ ((c1 * 131 + c2 * 1117 + p * 29 + q3 * 53) / 64) = Y
      generalize hXX : c1 * 131 + c2 * 1117 + p * 29 + q3 * 53 = X
      intro eX hsum hX hY
      clear hXX
      have hm : (Y : Int).tmod (n : Int) = ((Y % n : Nat) : Int) := by rw [Int.tmod_eq_emod_of_nonneg (by omega)]; rfl
      have hml := Nat.mod_lt Y hn
      revert hm hml
      generalize Y % n = m
      intro hm hml
      have w1 : IntKind.i64.wrap ((c1 : Int) * 131) = (c1 : Int) * 131 := IntWalk.i64_in _ (by omega)
      have w2 : IntKind.i64.wrap ((c2 : Int) * 1117) = (c2 : Int) * 1117 := IntWalk.i64_in _ (by omega)
      have w3 : IntKind.i64.wrap ((p : Int) * 7) = (p : Int) * 7 := IntWalk.i64_in _ (by omega)
      have w4 : IntKind.i64.wrap ((p : Int) * 7 + 3) = (p : Int) * 7 + 3 := IntWalk.i64_in _ (by omega)
      have w5 : IntKind.i64.wrap ((c1 : Int) * 131 + (c2 : Int) * 1117) = (c1 : Int) * 131 + (c2 : Int) * 1117 := IntWalk.i64_in _ (by omega)
      have w6 : IntKind.i64.wrap ((p : Int) * 29) = (p : Int) * 29 := IntWalk.i64_in _ (by omega)
      have w7 : IntKind.i64.wrap ((c1 : Int) * 131 + (c2 : Int) * 1117 + (p : Int) * 29) = (c1 : Int) * 131 + (c2 : Int) * 1117 + (p : Int) * 29 := IntWalk.i64_in _ (by omega)
      have w8 : IntKind.i64.wrap (q3 : Int) = (q3 : Int) := IntWalk.i64_in _ (by omega)
      have w9 : IntKind.i64.wrap ((q3 : Int) * 53) = (q3 : Int) * 53 := IntWalk.i64_in _ (by omega)
      have w10 : IntKind.i64.wrap ((c1 : Int) * 131 + (c2 : Int) * 1117 + (p : Int) * 29 + (q3 : Int) * 53) = (X : Int) := by rw [← hsum]; exact IntWalk.i64_in _ (by omega)
      have w11 : IntKind.i64.wrap (c1 : Int) = (c1 : Int) := IntWalk.i64_in _ (by omega)
      have w12 : IntKind.i64.wrap (c2 : Int) = (c2 : Int) := IntWalk.i64_in _ (by omega)
      have i1 : (q1 : Int) < (L : Int) := by omega
      have i2 : (q2 : Int) < (L : Int) := by omega
      go_enter Try.func76, Try.ntmps76
      go_wp2
      have s0 : (w.setCell ⟨R, 1, none⟩ (.int .i64 ((p : Int) + 1))).cell? ⟨R, 0, none⟩ = some (.slice (some ⟨b, off, none⟩) L cap) := by go_simp
      have s1 : (w.setCell ⟨R, 1, none⟩ (.int .i64 ((p : Int) + 1))).cell? ⟨b, off + q1, none⟩ = some (.int .u8 (c1 : Int)) := by go_simp
      have s2 : (w.setCell ⟨R, 1, none⟩ (.int .i64 ((p : Int) + 1))).cell? ⟨b, off + q2, none⟩ = some (.int .u8 (c2 : Int)) := by go_simp
      replace HEND := HEND.out
      replace HOUT := HOUT.out
      replace HSZ := HSZ.out
      revert s0 s1 s2 HEND HOUT HSZ
      generalize w.setCell ⟨R, 1, none⟩ (.int .i64 ((p : Int) + 1)) = wx
      intro s0 s1 s2 HEND HOUT HSZ
      replace HEND := Lib.hid HEND
      replace HOUT := Lib.hid HOUT
      replace HSZ := Lib.hid HSZ
      clear hk1 hk2 r0 r1 f1
      go_quiet (fail)
      clear w1 w2 w3 w4 w5 w6 w7 w8 w9 w10 w11 w12 e1 e2 e3 s0 s1 s2 hsum
      go_wp2
      go_ret
      exact ⟨m, rfl, hml, HEND.out.drewN _, HOUT.out.drewN _, HSZ.out⟩

/-- Where a code came in: of whatever length; its cells lie below hi. -/
theorem l6Open_any (v : Value) (n hi : Nat) (w : World) (hv : By w hi v n) (hhi : hi ≤ w.heap.size) :
    Calls Try.prog 69 #[v] w fun e w' => e = .returned (.pointer (some ⟨w.heap.size, 0, none⟩)) ∧ Below w.heap.size w w' ∧ Rd w' hi w.heap.size 0 := by
  have hv0 := hv
  obtain ⟨a, cap, c, rfl, hcap, hcap2, hc⟩ := hv
  by_cases hl : n ≤ 2000
  · have h0 : decide ((2000 : Int) < (n : Int)) = false := by simp; omega
    go_enter Try.func69, Try.ntmps69
    go_wp2
    go_ret
    have hb := (Below.refl w.heap.size w).alloc (Nat.le_refl _) (.cells #[.slice a n cap, .int .i64 0] 104)
    exact ⟨rfl, hb, ⟨⟨_, n, Row.new _ _ _, hv0.kept fun k hk => hb.block k (by omega), hl⟩, hhi, by omega⟩⟩
  · have h0 : decide ((2000 : Int) < (n : Int)) = true := by simp; omega
    have hv1 : By w hi (.slice a 2000 cap) 2000 := ⟨a, cap, c, rfl, by omega, hcap2, fun _ => by
      obtain ⟨b, off, e, hb, h⟩ := hc (by omega)
      exact ⟨b, off, e, hb, fun k hk => h k (by omega)⟩⟩
    obtain ⟨b, off, rfl, hb, hc⟩ := hc (by omega)
    go_enter Try.func69, Try.ntmps69
    go_wp2
    go_ret
    have hb := (Below.refl w.heap.size w).alloc (Nat.le_refl _) (.cells #[.slice (some ⟨b, off, none⟩) 2000 cap, .int .i64 0] 104)
    exact ⟨rfl, hb, ⟨⟨_, 2000, Row.new _ _ _, hv1.kept fun k hk => hb.block k (by omega), by omega⟩, hhi, by omega⟩⟩

end Go.Proofs.Ytoanefccnbnkmaa
