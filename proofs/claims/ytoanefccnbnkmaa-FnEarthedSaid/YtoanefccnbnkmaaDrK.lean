/- The draws of FnOpen and FnEarthed. -/
import Derived.Test.YtoanefccnbnkmaaDrG
namespace Go.Proofs.Ytoanefccnbnkmaa
open Go.RowKit

set_option maxRecDepth 100000 in
set_option maxHeartbeats 1000000 in
theorem drawFaultOpen_any (v : Value) (n hi : Nat) (w : World) (hv : By w hi v n) (hhi : hi ≤ w.heap.size) :
    Calls Try.prog 55 #[v] w fun e w' => ∃ r m f, e = .returned (.tuple #[r, .agg #[.int .i64 m, .int .i64 f]]) ∧ Hid (∃ cs k, Below w.heap.size w w' ∧ SlF 3 w' w'.heap.size r cs k) := by
  have b0 := (Below.refl w.heap.size w).alloc (Nat.le_refl _) (.cells #[.int .i64 0, .int .i64 0] 41)
  have hv0 : By (w.alloc (.cells #[.int .i64 0, .int .i64 0] 41)) hi v n := hv.kept fun k hk => b0.block k (by omega)
  have B0 := Lib.hid b0
  have R0 := Lib.hid (Row.new w #[.int .i64 0, .int .i64 0] 41)
  clear b0 hv
  go_enter Try.func55, Try.ntmps55
  go_wp2_with fail
  refine (l6Open_any v n hi _ hv0 (by simp; omega)).mono ?_
  rintro e w1 ⟨rfl, b1, d1⟩
  rw [World.size_alloc] at d1
  have hz1 := d1.lt
  have B1 := Lib.hid (nextW B0.out b1)
  have R1 := Lib.hid (R0.out.old b1)
  have D1 := Lib.hid d1
  clear b1 d1 hv0 B0 R0
  go_wp2_with fail
  refine (l91Fault_any hi (w.heap.size + 1) 0 w1 D1.out (by omega)).mono ?_
  rintro e w5 ⟨r, m, f, rfl, hd⟩
  obtain ⟨cs, k, p, hp, st, wr, hk, hm, hf⟩ := hd.out
  have hz5 := st.gr.size
  have R5 := Lib.hid (R1.out.st st (by omega))
  have ST5 := Lib.hid st
  have S5 := Lib.hid wr
  clear hd st wr D1 R1
  have k2 : _ = some (Value.int .i64 0) := R5.out.cell 0
  have k3 : _ = some (Value.int .i64 0) := R5.out.cell 1
  have z0 := R5.out.frozen 0
  have z1 := R5.out.frozen 1
  have FIN : Hid (∃ cs k, Below w.heap.size w ((w5.setCell ⟨w.heap.size, 0, none⟩ (.int .i64 m)).setCell ⟨w.heap.size, 1, none⟩ (.int .i64 f)) ∧ SlF 3 ((w5.setCell ⟨w.heap.size, 0, none⟩ (.int .i64 m)).setCell ⟨w.heap.size, 1, none⟩ (.int .i64 f)) ((w5.setCell ⟨w.heap.size, 0, none⟩ (.int .i64 m)).setCell ⟨w.heap.size, 1, none⟩ (.int .i64 f)).heap.size r cs k) :=
    Lib.hid ⟨cs, k, set2B (st_below B1.out ST5.out (by omega)) (Nat.le_refl _) _ _, ((S5.out.set (.inl (by omega))).set (.inl (by omega))).sl.mono (by simp [World.setCell])⟩
  go_wp2
  try simp only [Exit.inBlock, Exit.then]
  refine bodyPost_ret (results_tc rfl _ _ w.heap.size _ _ rfl ((R5.out.set 0 _).set 1 _) fault_agg fault_size) rfl ?_
  exact ⟨_, m, f, rfl, FIN⟩

set_option maxRecDepth 100000 in
set_option maxHeartbeats 1000000 in
theorem drawFaultEarthed_any (v : Value) (n hi : Nat) (w : World) (hv : By w hi v n) (hhi : hi ≤ w.heap.size) :
    Calls Try.prog 57 #[v] w fun e w' => ∃ r m f, e = .returned (.tuple #[r, .agg #[.int .i64 m, .int .i64 f]]) ∧ Hid (∃ cs k, Below w.heap.size w w' ∧ SlF 3 w' w'.heap.size r cs k) := by
  have b0 := (Below.refl w.heap.size w).alloc (Nat.le_refl _) (.cells #[.int .i64 0, .int .i64 0] 41)
  have hv0 : By (w.alloc (.cells #[.int .i64 0, .int .i64 0] 41)) hi v n := hv.kept fun k hk => b0.block k (by omega)
  have B0 := Lib.hid b0
  have R0 := Lib.hid (Row.new w #[.int .i64 0, .int .i64 0] 41)
  clear b0 hv
  go_enter Try.func57, Try.ntmps57
  go_wp2_with fail
  refine (l6Open_any v n hi _ hv0 (by simp; omega)).mono ?_
  rintro e w1 ⟨rfl, b1, d1⟩
  rw [World.size_alloc] at d1
  have hz1 := d1.lt
  have B1 := Lib.hid (nextW B0.out b1)
  have R1 := Lib.hid (R0.out.old b1)
  have D1 := Lib.hid d1
  clear b1 d1 hv0 B0 R0
  go_wp2_with fail
  refine (l91Fault_any hi (w.heap.size + 1) 0 w1 D1.out (by omega)).mono ?_
  rintro e w2 ⟨r, m, f, rfl, hd⟩
  obtain ⟨cs, k, p, hp, st, wr, hk, hm, hf⟩ := hd.out
  obtain ⟨y0, y1, y2⟩ := box2 w2 m f 41
  have hz2 := st.gr.size
  have R2 := Lib.hid ((R1.out.st st (by omega)).old y0)
  have F2 := Lib.hid (Row.new w2 #[.int .i64 m, .int .i64 f] 41)
  have ST3 := Lib.hid (st.below (y0.mono hz2))
  have S3 := Lib.hid (wr.old y0)
  have hz3 := y0.size
  clear hd st wr y0 D1 y1 y2 R1
  go_wp2_with fail
  refine (pick_any hi (w.heap.size + 1) p 6 _ ST3.out.rd (by omega) (by omega) (by omega)).mono ?_
  rintro e w5 ⟨t, rfl, ht, d5, o5, z5⟩
  have ST5 := Lib.hid (ST3.out.pick d5 o5)
  have S5 : Hid (WrF 3 76 w5 w1.heap.size w2.heap.size r cs k) := Lib.hid (S3.out.pick o5 hz1)
  have R5 := Lib.hid (R2.out.pick o5 (by omega))
  have F5 := Lib.hid (F2.out.pick o5 (by omega))
  have hz5 : w2.heap.size ≤ w5.heap.size := Nat.le_trans hz3 o5.size
  clear d5 o5 z5 S3 ST3 R2 F2
  have fin : Hid (∀ x y : Int, ∃ cs k, Below w.heap.size w ((w5.setCell ⟨w.heap.size, 0, none⟩ (.int .i64 x)).setCell ⟨w.heap.size, 1, none⟩ (.int .i64 y)) ∧ SlF 3 ((w5.setCell ⟨w.heap.size, 0, none⟩ (.int .i64 x)).setCell ⟨w.heap.size, 1, none⟩ (.int .i64 y)) ((w5.setCell ⟨w.heap.size, 0, none⟩ (.int .i64 x)).setCell ⟨w.heap.size, 1, none⟩ (.int .i64 y)).heap.size r cs k) :=
    Lib.hid fun x y => ⟨cs, k, set2B (st_below B1.out ST5.out (by omega)) (Nat.le_refl _) _ _, ((S5.out.set (.inl (by omega))).set (.inl (by omega))).sl.mono (by simp [World.setCell]; omega)⟩
  have k2 : _ = some (Value.int .i64 0) := R5.out.cell 0
  have k3 : _ = some (Value.int .i64 0) := R5.out.cell 1
  have z0 := R5.out.frozen 0
  have z1 := R5.out.frozen 1
  by_cases ht0 : t = 0
  · subst ht0
    have SS := Lib.hid S5.out.sl
    by_cases hM : 0 < milesI cs k
    · have hM2 : milesI cs k > 0 := hM
      have hM3 : (milesI cs k > 0) = True := eq_true hM
      go_wp2_with fail
      refine (specCableMiles_b _ cs k _ _ SS.out).mono ?_
      rintro e w6 ⟨rfl, b6⟩
      have ST6 := Lib.hid (ST5.out.below (b6.mono (by omega)))
      have S6 := Lib.hid (S5.out.old b6)
      have R6 := Lib.hid (R5.out.old b6)
      have hz6 : w2.heap.size ≤ w6.heap.size := Nat.le_trans hz5 b6.size
      have fin6 : Hid (∀ x y : Int, ∃ cs k, Below w.heap.size w ((w6.setCell ⟨w.heap.size, 0, none⟩ (.int .i64 x)).setCell ⟨w.heap.size, 1, none⟩ (.int .i64 y)) ∧ SlF 3 ((w6.setCell ⟨w.heap.size, 0, none⟩ (.int .i64 x)).setCell ⟨w.heap.size, 1, none⟩ (.int .i64 y)) ((w6.setCell ⟨w.heap.size, 0, none⟩ (.int .i64 x)).setCell ⟨w.heap.size, 1, none⟩ (.int .i64 y)).heap.size r cs k) :=
        Lib.hid fun x y => ⟨cs, k, set2B (st_below B1.out ST6.out (by omega)) (Nat.le_refl _) _ _, ((S6.out.set (.inl (by omega))).set (.inl (by omega))).sl.mono (by simp [World.setCell]; omega)⟩
      have j2 : _ = some (Value.int .i64 0) := R6.out.cell 0
      have j3 : _ = some (Value.int .i64 0) := R6.out.cell 1
      have i0 := R6.out.frozen 0
      have i1 := R6.out.frozen 1
      clear b6 k2 k3 z0 z1 fin
      go_wp2
      try simp only [Exit.inBlock, Exit.then]
      refine bodyPost_ret (results_tc rfl _ _ w.heap.size _ _ rfl ((R6.out.set 0 _).set 1 _) fault_agg fault_size) rfl ?_
      obtain ⟨cs', k', f1, f2⟩ := fin6.out (milesI cs k) 0
      exact ⟨_, _, 0, rfl, Lib.hid ⟨cs', k', f1, f2⟩⟩
    · have hM3 : (milesI cs k > 0) = False := eq_false hM
      have hM4 : (0 < milesI cs k) = False := eq_false hM
      have hM5 : milesI cs k ≤ 0 := by omega
      go_wp2_with fail
      refine (specCableMiles_b _ cs k _ _ SS.out).mono ?_
      rintro e w6 ⟨rfl, b6⟩
      have ST6 := Lib.hid (ST5.out.below (b6.mono (by omega)))
      have S6 := Lib.hid (S5.out.old b6)
      have R6 := Lib.hid (R5.out.old b6)
      have hz6 : w2.heap.size ≤ w6.heap.size := Nat.le_trans hz5 b6.size
      have fin6 : Hid (∀ x y : Int, ∃ cs k, Below w.heap.size w ((w6.setCell ⟨w.heap.size, 0, none⟩ (.int .i64 x)).setCell ⟨w.heap.size, 1, none⟩ (.int .i64 y)) ∧ SlF 3 ((w6.setCell ⟨w.heap.size, 0, none⟩ (.int .i64 x)).setCell ⟨w.heap.size, 1, none⟩ (.int .i64 y)) ((w6.setCell ⟨w.heap.size, 0, none⟩ (.int .i64 x)).setCell ⟨w.heap.size, 1, none⟩ (.int .i64 y)).heap.size r cs k) :=
        Lib.hid fun x y => ⟨cs, k, set2B (st_below B1.out ST6.out (by omega)) (Nat.le_refl _) _ _, ((S6.out.set (.inl (by omega))).set (.inl (by omega))).sl.mono (by simp [World.setCell]; omega)⟩
      have j2 : _ = some (Value.int .i64 0) := R6.out.cell 0
      have j3 : _ = some (Value.int .i64 0) := R6.out.cell 1
      have i0 := R6.out.frozen 0
      have i1 := R6.out.frozen 1
      clear b6 k2 k3 z0 z1 fin
      go_wp2
      try simp only [Exit.inBlock, Exit.then]
      refine bodyPost_ret (results_tc rfl _ _ w.heap.size _ _ rfl ((R6.out.set 0 _).set 1 _) fault_agg fault_size) rfl ?_
      obtain ⟨cs', k', f1, f2⟩ := fin6.out 0 0
      exact ⟨_, 0, 0, rfl, Lib.hid ⟨cs', k', f1, f2⟩⟩
  · have hb : ((t : Int) == 0) = false := by simp; omega
    have k0 : _ = some (Value.int .i64 m) := F5.out.cell 0
    have k1 : _ = some (Value.int .i64 f) := F5.out.cell 1
    go_wp2
    go_region
    go_wp2
    try simp only [Exit.inBlock, Exit.then]
    refine bodyPost_ret (results_tc rfl _ _ w.heap.size _ _ rfl ((R5.out.set 0 _).set 1 _) fault_agg fault_size) rfl ?_
    obtain ⟨cs', k', f1, f2⟩ := fin.out m f
    exact ⟨_, m, f, rfl, Lib.hid ⟨cs', k', f1.drew, f2.drewN 1⟩⟩

end Go.Proofs.Ytoanefccnbnkmaa
