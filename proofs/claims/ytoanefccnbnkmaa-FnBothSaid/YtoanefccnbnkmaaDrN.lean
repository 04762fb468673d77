/- The draw of FnBoth. -/
import Derived.Test.YtoanefccnbnkmaaDrG
import Derived.Test.YtoanefccnbnkmaaBoth
namespace Go.Proofs.Ytoanefccnbnkmaa
open Go.RowKit

theorem results_ttc {P : Program} {fn : Func} {p u v : Tmp} {ty : TypeId} (h : fn.results = #[.tmp u, .tmp v, .cell p ty]) (tmps : Array Value) (w : World) (g : Nat) (t : TypeId) (cs : Array Value)
    (hp : tmps.getD p undef = .pointer (some ⟨g, 0, none⟩)) (hg : Row w g t cs)
    (hu : ((P.underlying ty).any fun d => match d with | .struct _ | .array _ _ => true | _ => false) = true) (hi : (P.info? ty).map (·.size) = some cs.size) :
    (results fn tmps).run P w = .ok (.tuple #[tmps.getD u undef, tmps.getD v undef, .agg cs]) w := by
  have hp' : tmps[p]?.getD undef = .pointer (some ⟨g, 0, none⟩) := by simpa using hp
  cases hd : P.underlying ty with
  | none => rw [hd] at hu; simp at hu
  | some d =>
    rw [hd] at hu
    have hl := run_loadVar_row (P := P) w g t ty cs (0, 0) d hg hd (by cases d <;> simp_all) hi
    simp [results, h, hp', asAddr, hl, Result.andThen]
theorem ratio_agg2 : ((Try.prog.underlying 31).any fun d => match d with | .struct _ | .array _ _ => true | _ => false) = true := by kernel_rfl
theorem ratio_size2 : (Try.prog.info? 31).map (·.size) = some 2 := by kernel_rfl
theorem finB {w w1 x : World} {hi p h2 k : Nat} {r : Value} {cs : List Int} (B1 : Below w.heap.size w w1) (hz1 : w.heap.size + 1 < w1.heap.size) (st : St w1 x hi (w.heap.size + 1) p) (S : WrF 3 76 x w1.heap.size h2 r cs k) (hx : h2 ≤ x.heap.size) (u v : Value) :
    ∃ cs k, Below w.heap.size w ((x.setCell ⟨w.heap.size, 0, none⟩ u).setCell ⟨w.heap.size, 1, none⟩ v) ∧ SlF 3 ((x.setCell ⟨w.heap.size, 0, none⟩ u).setCell ⟨w.heap.size, 1, none⟩ v) ((x.setCell ⟨w.heap.size, 0, none⟩ u).setCell ⟨w.heap.size, 1, none⟩ v).heap.size r cs k :=
  ⟨cs, k, set2B (st_below B1 st (by omega)) (Nat.le_refl _) _ _, ((S.set (.inl (by omega))).set (.inl (by omega))).sl.mono (by simp [World.setCell]; omega)⟩

def BothD (w w' : World) (r : Value) (a : Int) : Prop := (∃ cs k, Below w.heap.size w w' ∧ SlF 3 w' w'.heap.size r cs k) ∧ 0 ≤ a ∧ a ≤ 9000

set_option maxRecDepth 100000 in
set_option maxHeartbeats 2000000 in
theorem drawFaultBoth_any (v : Value) (n hi : Nat) (w : World) (hv : By w hi v n) (hhi : hi ≤ w.heap.size) :
    Calls Try.prog 58 #[v] w fun e w' => ∃ r a t l, e = .returned (.tuple #[r, .int .i64 a, .agg #[.int .i64 t, .int .i64 l]]) ∧ Hid (BothD w w' r a) := by
  have b0 := (Below.refl w.heap.size w).alloc (Nat.le_refl _) (.cells #[.int .i64 0, .int .i64 0] 31)
  have hv0 : By (w.alloc (.cells #[.int .i64 0, .int .i64 0] 31)) hi v n := hv.kept fun k hk => b0.block k (by omega)
  have B0 := Lib.hid b0
  have R0 := Lib.hid (Row.new w #[.int .i64 0, .int .i64 0] 31)
  clear b0 hv
  go_enter Try.func58, Try.ntmps58
  go_wp2_with fail
  refine (l6Open_any v n hi _ hv0 (by simp; omega)).mono ?_
  rintro e w1 ⟨rfl, b1, d1⟩
  rw [World.size_alloc] at d1
  have hz1 := d1.lt
  have B1 := Lib.hid (nextW B0.out b1)
  have R1 := Lib.hid (R0.out.old b1)
  have D1 := Lib.hid d1
  clear b1 d1 hv0 B0 R0
  go_wp2_with fail
  refine (l91Fault_any hi (w.heap.size + 1) 0 w1 D1.out (by omega)).mono ?_
  rintro e w2 ⟨r, m, f, rfl, hd⟩
  obtain ⟨cs, k, p, hp, st, wr, hk, hm, hf⟩ := hd.out
  obtain ⟨y0, y1, y2⟩ := box2 w2 m f 41
  have hz2 := st.gr.size
  have R2 := Lib.hid ((R1.out.st st (by omega)).old y0)
  have ST3 := Lib.hid (st.below (y0.mono hz2))
  have S3 : Hid (WrF 3 76 _ w1.heap.size w2.heap.size r cs k) := Lib.hid (wr.old y0)
  have hz3 := y0.size
  clear hd st wr y0 D1 R1
  obtain ⟨A, hA⟩ : ∃ A, opA cs k m f = A := ⟨_, rfl⟩
  obtain ⟨B, hB⟩ : ∃ B, opB cs k m f = B := ⟨_, rfl⟩
  obtain ⟨q, hq⟩ : ∃ q, fvB cs k m f = q := ⟨_, rfl⟩
  obtain ⟨T, hT⟩ : ∃ T, feT cs k m f = T := ⟨_, rfl⟩
  obtain ⟨L, hL⟩ : ∃ L, feL cs k m f = L := ⟨_, rfl⟩
  have hbd := (op_lim (cs := cs) (n := k) (m := m) (f := f)).1
  rw [hA] at hbd
  have HO := Lib.hid (And.intro hA (And.intro hB hq))
  have HE := Lib.hid (And.intro hT (And.intro hL hq))
  clear hA hB hq hT hL
  obtain ⟨hA1, hA2⟩ := hbd
  go_wp2_with fail
  refine (specFaultOpen_is2 _ m f cs k _ _ S3.out.sl HO.out).mono ?_
  rintro e w4 ⟨rfl, b4⟩
  have ST4 := Lib.hid (ST3.out.below (b4.mono (Nat.le_trans hz2 hz3)))
  have S4 := Lib.hid (S3.out.old b4)
  have R4 := Lib.hid (R2.out.old b4)
  have hz4 : w2.heap.size ≤ w4.heap.size := Nat.le_trans hz3 b4.size
  replace y1 := cellB y1 b4
  replace y2 := cellB y2 b4
  clear b4 S3 ST3 R2 hz3
  go_wp2_with fail
  refine (specFaultEarthed_is _ m f cs k _ _ S4.out.sl HE.out).mono ?_
  rintro e w5 ⟨rfl, b5⟩
  obtain ⟨u0, u1, u2⟩ := box2 w5 T L 31
  have bb := nextW b5 u0
  have ST5 := Lib.hid (ST4.out.below (bb.mono (Nat.le_trans hz2 hz4)))
  have S5 := Lib.hid (S4.out.old bb)
  have R5 := Lib.hid (R4.out.old bb)
  have G5 := Lib.hid (Row.new w5 #[.int .i64 T, .int .i64 L] 31)
  have hz5 : w2.heap.size ≤ w5.heap.size := Nat.le_trans hz4 b5.size
  have hz6 := Nat.le_trans hz5 u0.size
  clear bb b5 u0 u1 u2 y1 y2 S4 ST4 R4 HO HE
  cases q with
  | false =>
    go_wp2_with fail
    refine (pick_any hi (w.heap.size + 1) p 40 _ ST5.out.rd (by omega) (by omega) (by omega)).mono ?_
    rintro e x1 ⟨t1, rfl, ht1, d1, o1, z1⟩
    have STa := Lib.hid (ST5.out.pick d1 o1)
    have Sa : Hid (WrF 3 76 x1 w1.heap.size w2.heap.size r cs k) := Lib.hid (S5.out.pick o1 hz1)
    have Ra := Lib.hid (R5.out.pick o1 (by omega))
    have hza : w2.heap.size ≤ x1.heap.size := Nat.le_trans hz6 o1.size
    clear d1 o1 z1 ST5 S5 R5 G5
    go_wp2_with fail
    refine (pick_any hi (w.heap.size + 1) (p + 1) 30 _ STa.out.rd (by omega) (by omega) (by omega)).mono ?_
    rintro e x2 ⟨t2, rfl, ht2, d1, o1, z1⟩
    have STb := Lib.hid (STa.out.pick d1 o1)
    have Sb : Hid (WrF 3 76 x2 w1.heap.size w2.heap.size r cs k) := Lib.hid (Sa.out.pick o1 hz1)
    have Rb := Lib.hid (Ra.out.pick o1 (by omega))
    have hzb : w2.heap.size ≤ x2.heap.size := Nat.le_trans hza o1.size
    clear d1 o1 z1 STa Sa Ra
    go_wp2_with fail
    refine (pick_any hi (w.heap.size + 1) (p + 1 + 1) 3 _ STb.out.rd (by omega) (by omega) (by omega)).mono ?_
    rintro e x3 ⟨t3, rfl, ht3, d1, o1, z1⟩
    have STc := Lib.hid (STb.out.pick d1 o1)
    have Sc : Hid (WrF 3 76 x3 w1.heap.size w2.heap.size r cs k) := Lib.hid (Sb.out.pick o1 hz1)
    have Rc := Lib.hid (Rb.out.pick o1 (by omega))
    have hzc : w2.heap.size ≤ x3.heap.size := Nat.le_trans hzb o1.size
    clear d1 o1 z1 STb Sb Rb
    have k2 : _ = some (Value.int .i64 0) := Rc.out.cell 0
    have k3 : _ = some (Value.int .i64 0) := Rc.out.cell 1
    have z0 := Rc.out.frozen 0
    have z1 := Rc.out.frozen 1
    go_wp2
    try simp only [Exit.inBlock, Exit.then]
    refine bodyPost_ret (results_ttc rfl _ _ w.heap.size _ _ rfl ((Rc.out.set 0 _).set 1 _) ratio_agg2 ratio_size2) rfl ?_
    exact ⟨_, _, _, _, rfl, Lib.hid ⟨finB B1.out hz1 STc.out Sc.out hzc _ _, by omega, by omega⟩⟩
  | true =>
    go_wp2_with fail
    refine (pick_any hi (w.heap.size + 1) p 5 _ ST5.out.rd (by omega) (by omega) (by omega)).mono ?_
    rintro e x0 ⟨t0, rfl, ht0, d1, o1, z1⟩
    have STo := Lib.hid (ST5.out.pick d1 o1)
    have So : Hid (WrF 3 76 x0 w1.heap.size w2.heap.size r cs k) := Lib.hid (S5.out.pick o1 hz1)
    have Ro := Lib.hid (R5.out.pick o1 (by omega))
    have Go := Lib.hid (G5.out.pick o1 (by omega))
    have hzo : w2.heap.size ≤ x0.heap.size := Nat.le_trans hz6 o1.size
    clear d1 o1 z1 ST5 S5 R5 G5
    by_cases h0 : 0 < t0
    · have hd1 : decide ((0 : Int) < (t0 : Int)) = true := decide_eq_true (by omega)
      have hd2 : decide (0 < t0) = true := decide_eq_true h0
      have k0 : _ = some (Value.int .i64 T) := Go.out.cell 0
      have k1 : _ = some (Value.int .i64 L) := Go.out.cell 1
      have k2 : _ = some (Value.int .i64 0) := Ro.out.cell 0
      have k3 : _ = some (Value.int .i64 0) := Ro.out.cell 1
      have z0 := Ro.out.frozen 0
      have z1 := Ro.out.frozen 1
      go_wp2
      go_region
      all_goals
        go_wp2
        try simp only [Exit.inBlock, Exit.then]
        refine bodyPost_ret (results_ttc rfl _ _ w.heap.size _ _ rfl ((Ro.out.set 0 _).set 1 _) ratio_agg2 ratio_size2) rfl ?_
        obtain ⟨cs', k', f1, f2⟩ := finB B1.out hz1 STo.out So.out hzo (.int .i64 T) (.int .i64 L)
        exact ⟨_, A, T, L, rfl, Lib.hid ⟨⟨cs', k', f1.drew, f2.drewN 1⟩, hA1, hA2⟩⟩
    · obtain rfl : t0 = 0 := by omega
      go_wp2_with fail
      refine (pick_any hi (w.heap.size + 1) (p + 1) 40 _ STo.out.rd (by omega) (by omega) (by omega)).mono ?_
      rintro e x1 ⟨t1, rfl, ht1, d1, o1, z1⟩
      have STa := Lib.hid (STo.out.pick d1 o1)
      have Sa : Hid (WrF 3 76 x1 w1.heap.size w2.heap.size r cs k) := Lib.hid (So.out.pick o1 hz1)
      have Ra := Lib.hid (Ro.out.pick o1 (by omega))
      have hza : w2.heap.size ≤ x1.heap.size := Nat.le_trans hzo o1.size
      clear d1 o1 z1 STo So Ro Go
      go_wp2_with fail
      refine (pick_any hi (w.heap.size + 1) (p + 1 + 1) 30 _ STa.out.rd (by omega) (by omega) (by omega)).mono ?_
      rintro e x2 ⟨t2, rfl, ht2, d1, o1, z1⟩
      have STb := Lib.hid (STa.out.pick d1 o1)
      have Sb : Hid (WrF 3 76 x2 w1.heap.size w2.heap.size r cs k) := Lib.hid (Sa.out.pick o1 hz1)
      have Rb := Lib.hid (Ra.out.pick o1 (by omega))
      have hzb : w2.heap.size ≤ x2.heap.size := Nat.le_trans hza o1.size
      clear d1 o1 z1 STa Sa Ra
      go_wp2_with fail
      refine (pick_any hi (w.heap.size + 1) (p + 1 + 1 + 1) 3 _ STb.out.rd (by omega) (by omega) (by omega)).mono ?_
      rintro e x3 ⟨t3, rfl, ht3, d1, o1, z1⟩
      have STc := Lib.hid (STb.out.pick d1 o1)
      have Sc : Hid (WrF 3 76 x3 w1.heap.size w2.heap.size r cs k) := Lib.hid (Sb.out.pick o1 hz1)
      have Rc := Lib.hid (Rb.out.pick o1 (by omega))
      have hzc : w2.heap.size ≤ x3.heap.size := Nat.le_trans hzb o1.size
      clear d1 o1 z1 STb Sb Rb
      have k2 : _ = some (Value.int .i64 0) := Rc.out.cell 0
      have k3 : _ = some (Value.int .i64 0) := Rc.out.cell 1
      have z0 := Rc.out.frozen 0
      have z1 := Rc.out.frozen 1
      go_wp2
      try simp only [Exit.inBlock, Exit.then]
      refine bodyPost_ret (results_ttc rfl _ _ w.heap.size _ _ rfl ((Rc.out.set 0 _).set 1 _) ratio_agg2 ratio_size2) rfl ?_
      exact ⟨_, _, _, _, rfl, Lib.hid ⟨finB B1.out hz1 STc.out Sc.out hzc _ _, by omega, by omega⟩⟩

end Go.Proofs.Ytoanefccnbnkmaa
