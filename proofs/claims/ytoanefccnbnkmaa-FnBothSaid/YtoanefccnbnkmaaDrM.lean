/- Draws of chapter 3: l91Mile. -/
import Derived.Test.YtoanefccnbnkmaaDrC
import Derived.Test.YtoanefccnbnkmaaCab
import Derived.Deep.RegionHeld3
import Derived.RegionTactic
import Derived.Deep.Cut
namespace Go.Proofs.Ytoanefccnbnkmaa
open Go.RowKit

theorem St.drewN {w0 w : World} {lo R p : Nat} (h : St w0 w lo R p) (n : Nat) : St w0 (w.drewN n) lo R p := ⟨h.rd.drewN n, ⟨h.gr.os, h.gr.tape, h.gr.output, h.gr.size, h.gr.block⟩, h.old⟩
theorem WrF.pick {s : Nat} {e : TypeId} {w w' : World} {lo hi R n : Nat} {v : Value} {cs : List Int} (h : WrF s e w lo hi v cs n) (o : Out R (R + 1) w w') (hR : R < lo) : WrF s e w' lo hi v cs n := h.out o (.inr (by omega))

theorem pick3 {a b c : Int} {t : Nat} (ht : t < 3) (ha : -1 ≤ a ∧ a ≤ 402) (hb : -1 ≤ b ∧ b ≤ 402) (hc : -1 ≤ c ∧ c ≤ 402) :
    ∃ u : Int, (#[.int .i64 a, .int .i64 b, .int .i64 c] : Array Value)[t]? = some (.int .i64 u) ∧ -1 ≤ u ∧ u ≤ 402 := by
  match t, ht with
  | 0, _ => exact ⟨a, rfl, ha.1, ha.2⟩
  | 1, _ => exact ⟨b, rfl, hb.1, hb.2⟩
  | 2, _ => exact ⟨c, rfl, hc.1, hc.2⟩
/-- What l91Mile leaves. -/
def MileD (w w' : World) (lo R p : Nat) (v : Value) (m : Int) : Prop := ∃ cs n p', p' ≤ p + 70 ∧ St w w' lo R p' ∧ WrF 3 76 w' w.heap.size w'.heap.size v cs n ∧ n ≤ 13 ∧ -1 ≤ m ∧ m ≤ 402

set_option maxRecDepth 100000 in
set_option maxHeartbeats 2000000 in
theorem l91Mile_any (lo R p : Nat) (w : World) (hr : Rd w lo R p) (hp : p ≤ 800000) :
    Calls Try.prog 94 #[.pointer (some ⟨R, 0, none⟩)] w fun e w' => ∃ v m, e = .returned (.tuple #[v, .int .i64 m]) ∧ Hid (MileD w w' lo R p v m) := by
  have hRw := hr.lt
  have HR := Lib.hid hr
  clear hr
  go_enter Try.func94, Try.ntmps94
  go_wp2_with fail
  refine (l91Cable_any lo R p 4 _ HR.out (by omega) (by omega)).mono ?_
  rintro e w1 ⟨v, rfl, hd⟩
  obtain ⟨cs, n, p1, hp1, st, wr, hn⟩ := hd.out
  have ST := Lib.hid st
  have WR := Lib.hid wr
  have hz1 : w.heap.size ≤ w1.heap.size := st.gr.size
  clear hd st wr HR
  go_wp2_with fail
  refine (specCableMiles_b _ cs n _ _ WR.out.sl).mono ?_
  rintro e w2 ⟨rfl, b2⟩
  have ST2 := Lib.hid (ST.out.below (b2.mono hz1))
  have WR2 := Lib.hid (WR.out.old b2)
  have hz2 := b2.size
  have hbd := milesI_bd (cs := cs) (n := n)
  have hw1 := Lib.hid (Nat.le_refl w1.heap.size)
  clear b2 ST WR hw1
  generalize milesI cs n = M at *
  obtain ⟨hM1, hM2⟩ := hbd
  have fin : Hid (∀ (wc : World) (u : Int) (q : Nat), q ≤ p + 70 → St w wc lo R q → WrF 3 76 wc w.heap.size w1.heap.size v cs n → w1.heap.size ≤ wc.heap.size → -1 ≤ u → u ≤ 402 → MileD w wc lo R p v u) :=
    Lib.hid fun wc u q h1 h2 h3 h4 h5 h6 => ⟨cs, n, q, h1, h2, h3.mono (Nat.le_refl _) h4, hn, h5, h6⟩
  have hwr : IntKind.i64.wrap (M + 1) = M + 1 := IntWalk.i64_in _ (by omega)
  by_cases hneg : M < 0
  · have hd : decide (M < 0) = true := decide_eq_true hneg
    have b3 := below_drewN (Below.refl w2.heap.size w2) 1
    have b4 := ((Below.refl w2.heap.size w2).alloc (Nat.le_refl _) (.cells #[.int .i64 (-1), .int .i64 (M + 1), .int .i64 M] 3)).drew
    have hzW : w1.heap.size ≤ w2.heap.size := by omega
    have hz0 : w.heap.size ≤ w2.heap.size := by omega
    have ST3 := Lib.hid (ST2.out.below (b3.mono hz0))
    have WR3 := Lib.hid (WR2.out.old b3)
    have ST4 := Lib.hid (ST2.out.below (b4.mono hz0))
    have WR4 := Lib.hid (WR2.out.old b4)
    have ROW4 := Lib.hid (show Row (World.drew (w2.alloc (.cells #[.int .i64 (-1), .int .i64 (M + 1), .int .i64 M] 3))) w2.heap.size 3 #[.int .i64 (-1), .int .i64 (M + 1), .int .i64 M] from Row.new w2 _ _)
    have B3 := Lib.hid b3
    have B4 := Lib.hid b4
    clear b3 b4
    go_upto_region 4 with (fail)
    go_cut [2, 3] from 17 (fun cv m wc => ∃ u : Int, cv = v ∧ m = .int .i64 u ∧ Hid (MileD w wc lo R p v u))
    case first =>
      go_region_with (first | (go_at_call 76; refine (pick_any lo R (p1) 3 _ (by first | exact ST3.out.rd | exact ST4.out.rd) (by omega) (by omega) (by omega)).mono ?_; rintro e wA ⟨t, rfl, ht, dA, oA, zA⟩; (have hzA : w2.heap.size ≤ wA.heap.size := by first | exact Nat.le_trans B3.out.size oA.size | exact Nat.le_trans B4.out.size oA.size); obtain ⟨u, hu, hu1, hu2⟩ := pick3 (a := -1) (b := M + 1) (c := M) ht (by omega) (by omega) (by omega); have ht2 : (t : Int) < 3 := (by omega); have k1 : (wA.alloc (.cells #[.int .i64 (-1), .int .i64 (M + 1), .int .i64 M] 3)).cell? ⟨wA.heap.size, t, none⟩ = some (.int .i64 u) := ((Row.new wA _ _).cell t).trans hu; (first | (have sA := Lib.hid (ST3.out.pick dA oA); have rA := Lib.hid (WR3.out.pick oA hRw)) | (have sA := Lib.hid (ST4.out.pick dA oA); have rA := Lib.hid (WR4.out.pick oA hRw); have k0 := ((ROW4.out.pick oA (by omega)).cell t).trans hu)); have HU := Lib.hid hu; clear zA dA oA hu))
      all_goals
        go_wp2
        go_meet
        case rel =>
          first
            | exact ⟨u, rfl, rfl, Lib.hid (fin.out _ u _ (by omega) sA.out rA.out (Nat.le_trans hzW hzA) hu1 hu2)⟩
            | exact ⟨u, rfl, rfl, Lib.hid (fin.out _ u _ (by omega) (sA.out.below (((Below.refl _ wA).alloc (Nat.le_refl _) _).mono (Nat.le_trans hz0 hzA))) (rA.out.old ((Below.refl _ wA).alloc (Nat.le_refl _) _)) (Nat.le_trans (Nat.le_trans hzW hzA) ((Below.refl _ wA).alloc (Nat.le_refl _) _).size) hu1 hu2)⟩
    case rest =>
      obtain ⟨u, rfl, rfl, HD⟩ := hcut
      go_wp2
      go_ret2
      exact ⟨_, _, rfl, HD⟩
  · have hd : decide (M < 0) = false := decide_eq_false hneg
    go_wp2_with fail
    refine (pick_any lo R p1 12 _ ST2.out.rd (by omega) (by omega) (by omega)).mono ?_
    rintro e w3 ⟨q, rfl, hq, d3, o3, z3⟩
    have ST5 := Lib.hid (ST2.out.pick d3 o3)
    have WR5 := Lib.hid (WR2.out.pick o3 hRw)
    have hz3 : w2.heap.size ≤ w3.heap.size := o3.size
    clear d3 o3 z3 ST2 WR2
    by_cases hq0 : q = 0
    · subst hq0
      have b3 := below_drewN (Below.refl w3.heap.size w3) 1
      have b4 := ((Below.refl w3.heap.size w3).alloc (Nat.le_refl _) (.cells #[.int .i64 (-1), .int .i64 (M + 1), .int .i64 M] 3)).drew
      have hzW : w1.heap.size ≤ w3.heap.size := by omega
      have hz0 : w.heap.size ≤ w3.heap.size := by omega
      have ST3 := Lib.hid (ST5.out.below (b3.mono hz0))
      have WR3 := Lib.hid (WR5.out.old b3)
      have ST4 := Lib.hid (ST5.out.below (b4.mono hz0))
      have WR4 := Lib.hid (WR5.out.old b4)
      have ROW4 := Lib.hid (show Row (World.drew (w3.alloc (.cells #[.int .i64 (-1), .int .i64 (M + 1), .int .i64 M] 3))) w3.heap.size 3 #[.int .i64 (-1), .int .i64 (M + 1), .int .i64 M] from Row.new w3 _ _)
      have B3 := Lib.hid b3
      have B4 := Lib.hid b4
      clear b3 b4
      go_upto_region 4 with (fail)
      go_cut [2, 3] from 17 (fun cv m wc => ∃ u : Int, cv = v ∧ m = .int .i64 u ∧ Hid (MileD w wc lo R p v u))
      case first =>
        go_region_with (first | (go_at_call 76; refine (pick_any lo R (p1 + 1) 3 _ (by first | exact ST3.out.rd | exact ST4.out.rd) (by omega) (by omega) (by omega)).mono ?_; rintro e wA ⟨t, rfl, ht, dA, oA, zA⟩; (have hzA : w3.heap.size ≤ wA.heap.size := by first | exact Nat.le_trans B3.out.size oA.size | exact Nat.le_trans B4.out.size oA.size); obtain ⟨u, hu, hu1, hu2⟩ := pick3 (a := -1) (b := M + 1) (c := M) ht (by omega) (by omega) (by omega); have ht2 : (t : Int) < 3 := (by omega); have k1 : (wA.alloc (.cells #[.int .i64 (-1), .int .i64 (M + 1), .int .i64 M] 3)).cell? ⟨wA.heap.size, t, none⟩ = some (.int .i64 u) := ((Row.new wA _ _).cell t).trans hu; (first | (have sA := Lib.hid (ST3.out.pick dA oA); have rA := Lib.hid (WR3.out.pick oA hRw)) | (have sA := Lib.hid (ST4.out.pick dA oA); have rA := Lib.hid (WR4.out.pick oA hRw); have k0 := ((ROW4.out.pick oA (by omega)).cell t).trans hu)); have HU := Lib.hid hu; clear zA dA oA hu))
        all_goals
          go_wp2
          go_meet
          case rel =>
            first
              | exact ⟨u, rfl, rfl, Lib.hid (fin.out _ u _ (by omega) sA.out rA.out (Nat.le_trans hzW hzA) hu1 hu2)⟩
              | exact ⟨u, rfl, rfl, Lib.hid (fin.out _ u _ (by omega) (sA.out.below (((Below.refl _ wA).alloc (Nat.le_refl _) _).mono (Nat.le_trans hz0 hzA))) (rA.out.old ((Below.refl _ wA).alloc (Nat.le_refl _) _)) (Nat.le_trans (Nat.le_trans hzW hzA) ((Below.refl _ wA).alloc (Nat.le_refl _) _).size) hu1 hu2)⟩
      case rest =>
        obtain ⟨u, rfl, rfl, HD⟩ := hcut
        go_wp2
        go_ret2
        exact ⟨_, _, rfl, HD⟩
    · have hb : ((q : Int) == 0) = false := by simp; omega
      obtain ⟨K, hK⟩ := Int.eq_ofNat_of_zero_le (by omega : (0 : Int) ≤ M)
      subst hK
      go_wp2_with fail
      refine (pick_any lo R (p1 + 1) (K + 1) _ ST5.out.rd (by omega) (by omega) (by omega)).mono ?_
      rintro e w4 ⟨t, rfl, ht, d4, o4, z4⟩
      have ST6 := Lib.hid (ST5.out.pick d4 o4)
      have WR6 := Lib.hid (WR5.out.pick o4 hRw)
      have hz4 : w3.heap.size ≤ w4.heap.size := o4.size
      clear d4 o4 z4 ST5 WR5
      go_wp2
      go_ret2
      exact ⟨_, _, rfl, Lib.hid (fin.out _ (t : Int) _ (by omega) ST6.out WR6.out (by omega) (by omega) (by omega))⟩

end Go.Proofs.Ytoanefccnbnkmaa
