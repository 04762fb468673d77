/- Draws of chapter 4: DrawServeValid, DrawServeWaste, DrawSparesFit; sameInts, sameSpares of lists that read the same. -/
import Derived.Test.YthbkimojbbkeiaaApP
import Derived.Test.YthbkimojbbkeiaaSvBestI
import Derived.Laws.ResultCell
import Derived.Laws.Rows
namespace Go.Proofs.Ythbkimojbbkeiaa
open Go.RowKit

set_option maxRecDepth 100000 in
set_option maxHeartbeats 2000000 in
theorem drawServeValid_any (v : Value) (n hi : Nat) (w : World) (hv : By w hi v n) (hhi : hi ≤ w.heap.size) :
    Calls Try.prog 53 #[v] w fun e w' => ∃ v1 v2 v3, e = .returned (.tuple #[v1, v2, v3]) ∧ Hid (∃ cs n ds m sv, Below w.heap.size w w' ∧ SlF 2 w' w'.heap.size v1 cs n ∧ SlF 2 w' w'.heap.size v2 ds m ∧ Sl w' w'.heap.size v3 sv ∧ n ≤ 12 ∧ m ≤ 4) := by
  go_enter Try.func53, Try.ntmps53
  go_wp2_with fail
  refine (l6Open_any v n hi w hv hhi).mono ?_
  rintro e w1 ⟨rfl, b1, d1⟩
  have hz1 := d1.lt
  have B1 := Lib.hid b1
  have D1 := Lib.hid d1
  clear b1 d1 hv
  go_wp2_with fail
  refine (l91Needs_any hi w.heap.size 0 w1 D1.out (by omega)).mono ?_
  rintro e w2 ⟨v1, v2, rfl, hd⟩
  obtain ⟨cs, n, ds, m, p', hp', st, s1, hn, s2, hm⟩ := hd.out
  have ST := Lib.hid st
  have S1 := Lib.hid s1
  have S2 := Lib.hid s2
  have hz2 := st.gr.size
  obtain ⟨a1, cap1, rfl, -⟩ := s1
  obtain ⟨a2, cap2, rfl, -⟩ := s2
  clear hd st D1
  obtain ⟨F, hF⟩ : ∃ F, scB cs n ds m = F := ⟨_, rfl⟩
  have HB := specServeBest_b _ _ cs ds n m _ _ w2 S1.out.sl S2.out.sl
  rw [hF] at HB
  replace HB := Lib.hid HB
  go_wp2_with fail
  refine HB.out.mono ?_
  rintro e w3 ⟨v3, rfl, b3, o3⟩
  have hl : Hid ((sbL cs n ds m).length ≤ 1048576) := Lib.hid (by
    unfold sbL
    split
    · rename_i h
      rw [scB, Bool.and_eq_true, decide_eq_true_eq] at h
      have h3 := ((best_main (cs := cs) (ds := ds) (n := n) (m := m) m [] (by simp)).2 h.2).2.1
      omega
    · simp)
  have W3 := Lib.hid (o3.out.wr hl.out)
  have ST3 := Lib.hid (ST.out.below (b3.out.mono hz2))
  have T1 := Lib.hid (S1.out.old b3.out)
  have T2 := Lib.hid (S2.out.old b3.out)
  have hz3 := b3.out.size
  have HG : Hid (n ≤ 12 ∧ m ≤ 4 ∧ p' ≤ 100) := Lib.hid ⟨hn, hm, by omega⟩
  have hp100 : p' ≤ 100 := by omega
  clear ST S1 S2 b3 o3 hl HB hF
  have rest : Hid (∀ (W : World) (P : Nat), P ≤ p' + 1 → w3.heap.size ≤ W.heap.size → St w1 W hi w.heap.size P → WrF 2 35 W w1.heap.size w2.heap.size (.slice a1 n cap1) cs n → WrF 2 35 W w1.heap.size w2.heap.size (.slice a2 m cap2) ds m → True) := Lib.hid fun _ _ _ _ _ _ _ => trivial
  clear rest
  have LOOP : ∀ (x : Nat), True := fun _ => trivial
  clear LOOP
  have DONE : Hid (∀ (W : World) (P : Nat) (sv : List Int) (v4 : Value), w3.heap.size ≤ W.heap.size → St w1 W hi w.heap.size P → WrF 2 35 W w1.heap.size w2.heap.size (.slice a1 n cap1) cs n → WrF 2 35 W w1.heap.size w2.heap.size (.slice a2 m cap2) ds m → Sl W W.heap.size v4 sv →
      ∃ cs n' ds m' sv, Below w.heap.size w W ∧ SlF 2 W W.heap.size (.slice a1 n cap1) cs n' ∧ SlF 2 W W.heap.size (.slice a2 m cap2) ds m' ∧ Sl W W.heap.size v4 sv ∧ n' ≤ 12 ∧ m' ≤ 4) := Lib.hid fun W P sv v4 hW h1 h2 h3 h4 =>
    ⟨cs, n, ds, m, sv, st_below B1.out h1 (Nat.le_refl _), h2.sl.mono (by omega), h3.sl.mono (by omega), h4, hn, hm⟩
  have WRI : Hid (∀ (W : World) (lo hi' R : Nat) (v : Value) (xs : List Int) (W' : World), Wr W lo hi' v xs → Out R (R + 1) W W' → R < lo → Wr W' lo hi' v xs) := Lib.hid fun W lo hi' R v xs W' h o hR => h.out o (.inr (by omega))
  cases F with
  | true =>
    go_wp2_with fail
    refine (pick_any hi w.heap.size p' 2 _ ST3.out.rd (by omega) (by omega) (by omega)).mono ?_
    rintro e w4 ⟨q, rfl, hq, d4, o4, z4⟩
    have ST4 := Lib.hid (ST3.out.pick d4 o4)
    have T14 := Lib.hid (T1.out.pick o4 hz1)
    have T24 := Lib.hid (T2.out.pick o4 hz1)
    have W4 := Lib.hid (WRI.out _ _ _ _ _ _ _ W3.out o4 (by omega))
    have hz4 := o4.size
    clear d4 o4 z4 ST3 T1 T2 W3 WRI
    by_cases hq0 : q = 0
    · subst hq0
      obtain ⟨c3, l3, k3, rfl, -⟩ := (id W4.out)
      go_wp2_with fail
      go_ret3
      exact ⟨_, _, _, rfl, Lib.hid (DONE.out _ _ _ _ hz4 ST4.out T14.out T24.out (W4.out.sl.mono hz4))⟩
    · have e0 : ((q : Int) == 0) = false := by simp; omega
      have bx := (Below.refl w4.heap.size w4).alloc (Nat.le_refl _) (.cells #[] 3)
      have ST5 := Lib.hid (ST4.out.below (bx.mono (by omega)))
      have T15 := Lib.hid (T14.out.old bx)
      have T25 := Lib.hid (T24.out.old bx)
      have O5 := Lib.hid (OwI.empty w4 w4.heap.size (Nat.le_refl _))
      have hz5 : w4.heap.size ≤ (w4.alloc (.cells #[] 3)).heap.size := by simp
      clear bx ST4 T14 T24 W4
      go_wp2_with fail
      go_loopw [10, 11] (fun s i wr => ∃ (k P : Nat) (o : List Int), k ≤ m ∧ i = .int .i64 k ∧ P ≤ p' + 1 + 2 * k ∧ o.length = k ∧ Hid (OwI wr w4.heap.size s o) ∧ Hid (St w1 wr hi w.heap.size P) ∧ Hid (WrF 2 35 wr w1.heap.size w2.heap.size (.slice a1 n cap1) cs n) ∧ Hid (WrF 2 35 wr w1.heap.size w2.heap.size (.slice a2 m cap2) ds m) ∧ w4.heap.size ≤ wr.heap.size) (fun _ i _ => m - (intOf i).toNat)
      case atStart => exact ⟨0, p' + 1, [], Nat.zero_le _, rfl, by omega, rfl, O5, ST5, T15, T25, hz5⟩
      case round =>
        clear O5 ST5 T15 T25 hz5
        obtain ⟨k, P, o, hk, rfl, hP, hol, hO, hS, hA, hBB, hz⟩ := hrel
        by_cases hlt : k < m
        · go_wp2_with fail
          refine (l91At_any hi w.heap.size P n _ hS.out.rd (by omega) (by omega)).mono ?_
          rintro e w6 ⟨u, P', rfl, hP', st6, hu1, hu2⟩
          have ST6 := Lib.hid (hS.out.next st6)
          have hRB : w.heap.size < w4.heap.size := by omega
          have A6 := Lib.hid (hA.out.of_block fun x hx h1 h2 => st6.gr.block x hx (by simp; omega))
          have BB6 := Lib.hid (hBB.out.of_block fun x hx h1 h2 => st6.gr.block x hx (by simp; omega))
          have O6 := Lib.hid (hO.out.of_block fun g hg => st6.gr.block g (hO.out.lt g hg).2 (by have := (hO.out.lt g hg).1; simp; omega))
          have hz6 : w4.heap.size ≤ w6.heap.size := Nat.le_trans hz st6.gr.size
          clear st6 hO hS hA hBB
          go_wp2_with (at_builtin; refine wpList_push O6.out (by rfl) (by rfl) (by rfl) (by rfl) (by omega) hz6 ?_; intro v7 w7 ow7 b7; have O7 := Lib.hid ow7; have B7 := Lib.hid b7; clear ow7 b7)
          have B8 := Lib.hid B7.out
          go_roundw
          case rel => exact ⟨k + 1, P', _, by omega, by go_num, by omega, by rw [List.length_append, List.length_singleton, hol], O7, Lib.hid (ST6.out.below (B8.out.mono (by omega))), Lib.hid (A6.out.low B8.out (by omega)), Lib.hid (BB6.out.low B8.out (by omega)), Nat.le_trans hz6 B8.out.size⟩
          case measure => simp [intOf]; omega
        · obtain rfl : k = m := by omega
          have H := Lib.hid (DONE.out _ _ _ _ (Nat.le_trans hz4 hz) hS.out hA.out hBB.out ((hO.out.wr (by omega)).sl))
          obtain ⟨c3, l3, k3, rfl, -⟩ := hO.out.form3
          go_wp2_with fail
          go_ret3
          exact ⟨_, _, _, rfl, H⟩
  | false =>
    have bx := (Below.refl w3.heap.size w3).alloc (Nat.le_refl _) (.cells #[] 3)
    have ST5 := Lib.hid (ST3.out.below (bx.mono (by omega)))
    have T15 := Lib.hid (T1.out.old bx)
    have T25 := Lib.hid (T2.out.old bx)
    have O5 := Lib.hid (OwI.empty w3 w3.heap.size (Nat.le_refl _))
    have hz5 : w3.heap.size ≤ (w3.alloc (.cells #[] 3)).heap.size := by simp
    clear bx ST3 T1 T2 W3
    go_wp2_with fail
    go_loopw [10, 11] (fun s i wr => ∃ (k P : Nat) (o : List Int), k ≤ m ∧ i = .int .i64 k ∧ P ≤ p' + 1 + 2 * k ∧ o.length = k ∧ Hid (OwI wr w3.heap.size s o) ∧ Hid (St w1 wr hi w.heap.size P) ∧ Hid (WrF 2 35 wr w1.heap.size w2.heap.size (.slice a1 n cap1) cs n) ∧ Hid (WrF 2 35 wr w1.heap.size w2.heap.size (.slice a2 m cap2) ds m) ∧ w3.heap.size ≤ wr.heap.size) (fun _ i _ => m - (intOf i).toNat)
    case atStart => exact ⟨0, p', [], Nat.zero_le _, rfl, by omega, rfl, O5, ST5, T15, T25, hz5⟩
    case round =>
      clear O5 ST5 T15 T25 hz5
      obtain ⟨k, P, o, hk, rfl, hP, hol, hO, hS, hA, hBB, hz⟩ := hrel
      by_cases hlt : k < m
      · go_wp2_with fail
        refine (l91At_any hi w.heap.size P n _ hS.out.rd (by omega) (by omega)).mono ?_
        rintro e w6 ⟨u, P', rfl, hP', st6, hu1, hu2⟩
        have ST6 := Lib.hid (hS.out.next st6)
        have A6 := Lib.hid (hA.out.of_block fun x hx h1 h2 => st6.gr.block x hx (by simp; omega))
        have BB6 := Lib.hid (hBB.out.of_block fun x hx h1 h2 => st6.gr.block x hx (by simp; omega))
        have O6 := Lib.hid (hO.out.of_block fun g hg => st6.gr.block g (hO.out.lt g hg).2 (by have := (hO.out.lt g hg).1; simp; omega))
        have hz6 : w3.heap.size ≤ w6.heap.size := Nat.le_trans hz st6.gr.size
        clear st6 hO hS hA hBB
        go_wp2_with (at_builtin; refine wpList_push O6.out (by rfl) (by rfl) (by rfl) (by rfl) (by omega) hz6 ?_; intro v7 w7 ow7 b7; have O7 := Lib.hid ow7; have B7 := Lib.hid b7; clear ow7 b7)
        have B8 := Lib.hid B7.out
        go_roundw
        case rel => exact ⟨k + 1, P', _, by omega, by go_num, by omega, by rw [List.length_append, List.length_singleton, hol], O7, Lib.hid (ST6.out.below (B8.out.mono (by omega))), Lib.hid (A6.out.low B8.out (by omega)), Lib.hid (BB6.out.low B8.out (by omega)), Nat.le_trans hz6 B8.out.size⟩
        case measure => simp [intOf]; omega
      · obtain rfl : k = m := by omega
        have H := Lib.hid (DONE.out _ _ _ _ hz hS.out hA.out hBB.out ((hO.out.wr (by omega)).sl))
        obtain ⟨c3, l3, k3, rfl, -⟩ := hO.out.form3
        go_wp2_with fail
        go_ret3
        exact ⟨_, _, _, rfl, H⟩

end Go.Proofs.Ythbkimojbbkeiaa
