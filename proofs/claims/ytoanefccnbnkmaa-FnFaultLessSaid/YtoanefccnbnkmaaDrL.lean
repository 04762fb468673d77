/- The draw of FnFaultLess. -/
import Derived.Test.YtoanefccnbnkmaaDrG
import Derived.Deep.RegionHeld3
import Derived.RegionTactic
import Derived.Deep.Cut
namespace Go.Proofs.Ytoanefccnbnkmaa
open Go.RowKit

theorem results_tcc {P : Program} {fn : Func} {p q u : Tmp} {ty : TypeId} (h : fn.results = #[.tmp u, .cell p ty, .cell q ty]) (tmps : Array Value) (w : World) (g g' : Nat) (t : TypeId) (cs ds : Array Value)
    (hp : tmps.getD p undef = .pointer (some ⟨g, 0, none⟩)) (hq : tmps.getD q undef = .pointer (some ⟨g', 0, none⟩)) (hg : Row w g t cs) (hg' : Row w g' t ds)
    (hu : ((P.underlying ty).any fun d => match d with | .struct _ | .array _ _ => true | _ => false) = true) (hi : (P.info? ty).map (·.size) = some cs.size) (hi' : (P.info? ty).map (·.size) = some ds.size) :
    (results fn tmps).run P w = .ok (.tuple #[tmps.getD u undef, .agg cs, .agg ds]) w := by
  have hp' : tmps[p]?.getD undef = .pointer (some ⟨g, 0, none⟩) := by simpa using hp
  have hq' : tmps[q]?.getD undef = .pointer (some ⟨g', 0, none⟩) := by simpa using hq
  cases hd : P.underlying ty with
  | none => rw [hd] at hu; simp at hu
  | some d =>
    rw [hd] at hu
    have hl := run_loadVar_row (P := P) w g t ty cs (0, 0) d hg hd (by cases d <;> simp_all) hi
    have hl' := run_loadVar_row (P := P) w g' t ty ds (0, 0) d hg' hd (by cases d <;> simp_all) hi'
    simp [results, h, hp', hq', asAddr, hl, hl', Result.andThen]

/-- What is known beside the reader, in DrawFaultLess. -/
structure LQ (w : World) (g7 : Nat) (r : Value) (x : World) : Prop where
  below : Below w.heap.size w x
  sl : ∃ cs k lo hi', hi' ≤ g7 ∧ w.heap.size + 1 + 1 < lo ∧ WrF 3 76 x lo hi' r cs k
  c3 : Row x w.heap.size 41 #[.int .i64 0, .int .i64 0]
  c4 : Row x (w.heap.size + 1) 41 #[.int .i64 0, .int .i64 0]
  big : w.heap.size + 1 + 1 < g7
  gl : g7 < x.heap.size
theorem LQ.old {w x y : World} {g7 : Nat} {r : Value} (h : LQ w g7 r x) (b : Below x.heap.size x y) : LQ w g7 r y := by
  obtain ⟨cs, k, lo, hi', h1, h2, h3⟩ := h.sl
  exact ⟨nextW h.below b, ⟨cs, k, lo, hi', h1, h2, h3.old b⟩, h.c3.old b, h.c4.old b, h.big, Nat.lt_of_lt_of_le h.gl b.size⟩
theorem LQ.pick {w x y : World} {g7 : Nat} {r : Value} (h : LQ w g7 r x) (o : Out (w.heap.size + 1 + 1) (w.heap.size + 1 + 1 + 1) x y) : LQ w g7 r y := by
  obtain ⟨cs, k, lo, hi', h1, h2, h3⟩ := h.sl
  have hb := h.big
  refine ⟨h.below.trans ⟨o.os, o.tape, o.output, o.size, fun j hj => o.block j (by have := h.below.size; omega) (by omega)⟩, ⟨cs, k, lo, hi', h1, h2, h3.pick o (by omega)⟩, h.c3.pick o (by omega), h.c4.pick o (by omega), h.big, Nat.lt_of_lt_of_le h.gl o.size⟩
theorem LQ.set {w x : World} {g7 g k : Nat} {r u : Value} (h : LQ w g7 r x) (hg : g7 < g) : LQ w g7 r (x.setCell ⟨g, k, none⟩ u) := by
  obtain ⟨cs, c, lo, hi', h1, h2, h3⟩ := h.sl
  have hb := h.big
  exact ⟨h.below.setCell (p := ⟨g, k, none⟩) (by show w.heap.size ≤ g; omega) u, ⟨cs, c, lo, hi', h1, h2, h3.set (.inr (by omega))⟩, h.c3.other (by show w.heap.size ≠ g; omega) u, h.c4.other (by show w.heap.size + 1 ≠ g; omega) u, h.big, by have := h.gl; simpa [World.setCell] using this⟩
theorem cellO {x y : World} {R g k : Nat} {v : Value} (h : x.cell? ⟨g, k, none⟩ = some v) (o : Out R (R + 1) x y) (hd : g ≠ R) : y.cell? ⟨g, k, none⟩ = some v :=
  (World.cell?_of_block (a := ⟨g, k, none⟩) (o.block g (World.block_lt_of_cell? x _ h) (by omega))).trans h
theorem cellS {x : World} {g g' k j : Nat} {v u : Value} (h : x.cell? ⟨g, k, none⟩ = some v) (hd : g < g') : (x.setCell ⟨g', j, none⟩ u).cell? ⟨g, k, none⟩ = some v :=
  (World.cell?_setCell_other (h := (fun e => by cases e; omega : (⟨g', j, none⟩ : Addr) ≠ ⟨g, k, none⟩)) ..).trans h
theorem keepL1 {w x y : World} {g7 : Nat} {r a b : Value} (h : x.cell? ⟨g7, 0, none⟩ = some a ∧ x.cell? ⟨g7, 1, none⟩ = some b ∧ LQ w g7 r x) (o : Below x.heap.size x y) :
    y.cell? ⟨g7, 0, none⟩ = some a ∧ y.cell? ⟨g7, 1, none⟩ = some b ∧ LQ w g7 r y := ⟨cellB h.1 o, cellB h.2.1 o, h.2.2.old o⟩
theorem keepL2 {w x y : World} {g7 : Nat} {r a b : Value} (h : x.cell? ⟨g7, 0, none⟩ = some a ∧ x.cell? ⟨g7, 1, none⟩ = some b ∧ LQ w g7 r x) (o : Out (w.heap.size + 1 + 1) (w.heap.size + 1 + 1 + 1) x y) :
    y.cell? ⟨g7, 0, none⟩ = some a ∧ y.cell? ⟨g7, 1, none⟩ = some b ∧ LQ w g7 r y := ⟨cellO h.1 o (by have := h.2.2.big; omega), cellO h.2.1 o (by have := h.2.2.big; omega), h.2.2.pick o⟩
theorem keepL3 {w x : World} {g7 g : Nat} {r a b u v : Value} (hg : g7 < g) (h : x.cell? ⟨g7, 0, none⟩ = some a ∧ x.cell? ⟨g7, 1, none⟩ = some b ∧ LQ w g7 r x) :
    ((x.setCell ⟨g, 0, none⟩ u).setCell ⟨g, 1, none⟩ v).cell? ⟨g7, 0, none⟩ = some a ∧ ((x.setCell ⟨g, 0, none⟩ u).setCell ⟨g, 1, none⟩ v).cell? ⟨g7, 1, none⟩ = some b ∧ LQ w g7 r ((x.setCell ⟨g, 0, none⟩ u).setCell ⟨g, 1, none⟩ v) :=
  ⟨cellS (cellS h.1 hg) hg, cellS (cellS h.2.1 hg) hg, (h.2.2.set hg).set hg⟩

set_option maxRecDepth 100000 in
set_option maxHeartbeats 600000 in
theorem drawFaultLess_any (v : Value) (n hi : Nat) (w : World) (hv : By w hi v n) (hhi : hi ≤ w.heap.size) :
    Calls Try.prog 49 #[v] w fun e w' => ∃ r m f m' f', e = .returned (.tuple #[r, .agg #[.int .i64 m, .int .i64 f], .agg #[.int .i64 m', .int .i64 f']]) ∧ Hid (∃ cs k, Below w.heap.size w w' ∧ SlF 3 w' w'.heap.size r cs k) := by
  have b0 := ((Below.refl w.heap.size w).alloc (Nat.le_refl _) (.cells #[.int .i64 0, .int .i64 0] 41)).alloc (by simp) (.cells #[.int .i64 0, .int .i64 0] 41)
  have hv0 : By ((w.alloc (.cells #[.int .i64 0, .int .i64 0] 41)).alloc (.cells #[.int .i64 0, .int .i64 0] 41)) hi v n := hv.kept fun k hk => b0.block k (by omega)
  have B0 := Lib.hid b0
  have R0 := Lib.hid ((Row.new w #[.int .i64 0, .int .i64 0] 41).old ((Below.refl _ (w.alloc (.cells #[.int .i64 0, .int .i64 0] 41))).alloc (Nat.le_refl _) (.cells #[.int .i64 0, .int .i64 0] 41)))
  have q0 := Row.new (w.alloc (.cells #[.int .i64 0, .int .i64 0] 41)) #[.int .i64 0, .int .i64 0] 41
  rw [World.size_alloc] at q0
  have Q0 := Lib.hid q0
  clear b0 hv q0
  go_enter Try.func49, Try.ntmps49
  go_wp2_with fail
  refine (l6Open_any v n hi _ hv0 (by simp; omega)).mono ?_
  rintro e w1 ⟨rfl, b1, d1⟩
  rw [World.size_alloc, World.size_alloc] at d1
  have hz1 : w.heap.size + 1 + 1 < w1.heap.size := d1.lt
  have B1 := Lib.hid (nextW B0.out b1)
  have R1 := Lib.hid (R0.out.old b1)
  have Q1 := Lib.hid (Q0.out.old b1)
  have D1 : Hid (Rd w1 hi (w.heap.size + 1 + 1) 0) := Lib.hid d1
  clear b1 d1 hv0 B0 R0 Q0
  go_wp2_with fail
  refine (l91Fault_any hi (w.heap.size + 1 + 1) 0 w1 D1.out (by omega)).mono ?_
  rintro e w2 ⟨r, m, f, rfl, hd⟩
  obtain ⟨cs, k, p, hp, st, wr, hk, hm, hf⟩ := hd.out
  obtain ⟨y0, y1, y2⟩ := box2 w2 m f 41
  have hz2 := st.gr.size
  have ST3 := Lib.hid (st.below (y0.mono hz2))
  have L0 : Hid (LQ w w2.heap.size r (w2.alloc (.cells #[.int .i64 m, .int .i64 f] 41))) :=
    Lib.hid ⟨nextW (st_below B1.out st (by omega)) y0, ⟨cs, k, _, _, Nat.le_refl _, hz1, wr.old y0⟩, (R1.out.st st (by omega)).old y0, (Q1.out.st st (by omega)).old y0, by omega, by simp⟩
  clear hd st wr y0 D1 R1 Q1 B1
  go_upto_region 3 with (fail)
  revert y1 y2 ST3 L0
  generalize (w2.alloc (.cells #[.int .i64 m, .int .i64 f] 41)) = W
  intro y1 y2 ST3 L0
  have S0 := Lib.hid (show W.drew.cell? ⟨w2.heap.size, 0, none⟩ = some (.int .i64 m) ∧ W.drew.cell? ⟨w2.heap.size, 1, none⟩ = some (.int .i64 f) ∧ LQ w w2.heap.size r W.drew from keepL1 ⟨y1, y2, L0.out⟩ (below_drewN (Below.refl W.heap.size W) 1))
  have D0 := Lib.hid (show Rd W.drew hi (w.heap.size + 1 + 1) p from ST3.out.rd.drewN 1)
  have D0a := Lib.hid (show Rd (World.drew (W.alloc (.cells #[.int .i64 0, .int .i64 0] 41))) hi (w.heap.size + 1 + 1) p from ST3.out.rd.below ((Below.refl W.heap.size W).alloc (Nat.le_refl _) _).drew)
  have A := Lib.hid (show (World.drew (W.alloc (.cells #[.int .i64 0, .int .i64 0] 41))).cell? ⟨w2.heap.size, 0, none⟩ = some (.int .i64 m) ∧ (World.drew (W.alloc (.cells #[.int .i64 0, .int .i64 0] 41))).cell? ⟨w2.heap.size, 1, none⟩ = some (.int .i64 f) ∧ LQ w w2.heap.size r (World.drew (W.alloc (.cells #[.int .i64 0, .int .i64 0] 41))) from keepL1 ⟨y1, y2, L0.out⟩ ((Below.refl W.heap.size W).alloc (Nat.le_refl _) _).drew)
  have hg0 := L0.out.gl
  have hb0 := L0.out.big
  have QA := Lib.hid (show Row (World.drew (W.alloc (.cells #[.int .i64 0, .int .i64 0] 41))) W.heap.size 41 #[.int .i64 0, .int .i64 0] from Row.new W _ _)
  clear ST3 L0 y1 y2
  go_cut [8] from 16 (fun c wc => ∃ (g : Nat) (x y : Int), c = .pointer (some ⟨g, 0, none⟩) ∧ Hid (w2.heap.size < g) ∧ Hid (Row wc g 41 #[.int .i64 x, .int .i64 y]) ∧ Hid (wc.cell? ⟨w2.heap.size, 0, none⟩ = some (.int .i64 m) ∧ wc.cell? ⟨w2.heap.size, 1, none⟩ = some (.int .i64 f) ∧ LQ w w2.heap.size r wc))
  case first =>
    go_region_held3 (fun w' => w'.cell? ⟨w2.heap.size, 0, none⟩ = some (.int .i64 m) ∧ w'.cell? ⟨w2.heap.size, 1, none⟩ = some (.int .i64 f) ∧ LQ w w2.heap.size r w')
      (first | with_reducible assumption | with_reducible exact S0.out | with_reducible exact A.out | with_reducible exact KB.out _ | with_reducible exact keepL2 S0.out (by assumption) | with_reducible exact keepL2 A.out (by assumption) | with_reducible exact keepL2 (by assumption) (by assumption) | with_reducible exact keepL1 (by assumption) ((Below.refl _ _).alloc (Nat.le_refl _) _) | with_reducible exact keepL3 (by omega) (by assumption))
      (first | ((have x_x := D1.out); clear x_x; go_at_call 76; refine (pick_any hi (w.heap.size + 1 + 1) (p + 1) 20 _ (by first | with_reducible exact D1.out | with_reducible exact D1a.out) (by omega) (by omega) (by omega)).mono ?_; rintro e wB ⟨u, rfl, hu, dB, oB, zB⟩; (have sB := keepL2 (w := w) (g7 := w2.heap.size) (r := r) (a := .int .i64 m) (b := .int .i64 f) (by with_reducible assumption) oB); (have gB := sB.2.2.gl); (have KB := Lib.hid (fun o => keepL1 sB ((Below.refl _ wB).alloc (Nat.le_refl _) o))); clear sB; (first | (with_reducible replace q := Lib.hid (q.out.pick oB (by omega))) | (with_reducible have q := Lib.hid (QB.out.pick oB (by omega))) | skip); (try (have q0 : _ = some (Value.int .i64 0) := q.out.cell 0; have q1 : _ = some (Value.int .i64 0) := q.out.cell 1; have q2 := q.out.frozen 0; have q3 := q.out.frozen 1)); clear dB zB) | (go_at_call 76; refine (pick_any hi (w.heap.size + 1 + 1) p 5 _ (by first | with_reducible exact D0.out | with_reducible exact D0a.out) (by omega) (by omega) (by omega)).mono ?_; rintro e wA ⟨t, rfl, ht, dA, oA, zA⟩; (have D1 := Lib.hid dA); (have DD1 := dA.below ((Below.refl _ _).alloc (Nat.le_refl _) (.cells #[.int .i64 0, .int .i64 0] 41))); (have D1a := Lib.hid DD1); clear dA DD1 zA; (have gA := Nat.lt_of_lt_of_le (show w2.heap.size < _ from by first | with_reducible exact S0.out.2.2.gl | with_reducible exact A.out.2.2.gl) oA.size); (have QB := Lib.hid (Row.new wA #[.int .i64 0, .int .i64 0] 41)); (first | (with_reducible have q := Lib.hid (QA.out.pick oA (by omega))) | skip)))
    all_goals
      go_wp2
      go_meet
      case rel =>
        first
          | exact ⟨_, _, _, rfl, Lib.hid (by omega), Lib.hid (Row.new _ _ _), Lib.hid (by assumption)⟩
          | exact ⟨_, _, _, rfl, Lib.hid (by omega), Lib.hid ((q.out.set 0 _).set 1 _), Lib.hid (by assumption)⟩
  case rest =>
    obtain ⟨g, x, y, rfl, hg, RG, HS⟩ := hcut
    have k0 := HS.out.1
    have k1 := HS.out.2.1
    have k2 : _ = some (Value.int .i64 x) := RG.out.cell 0
    have k3 : _ = some (Value.int .i64 y) := RG.out.cell 1
    have R3 := Lib.hid HS.out.2.2.c3
    have R4 := Lib.hid HS.out.2.2.c4
    have j0 : _ = some (Value.int .i64 0) := R3.out.cell 0
    have j1 : _ = some (Value.int .i64 0) := R3.out.cell 1
    have j2 : _ = some (Value.int .i64 0) := R4.out.cell 0
    have j3 : _ = some (Value.int .i64 0) := R4.out.cell 1
    have z0 := R3.out.frozen 0
    have z1 := R3.out.frozen 1
    have z2 := R4.out.frozen 0
    have z3 := R4.out.frozen 1
    have hb := HS.out.2.2.big
    have hg2 := hg.out
    have n1 : w.heap.size ≠ g := by omega
    have n2 : w.heap.size + 1 ≠ g := by omega
    have n3 : w.heap.size ≠ w2.heap.size := by omega
    have n4 : w.heap.size + 1 ≠ w2.heap.size := by omega
    go_wp2
    go_region
    all_goals
      go_wp2
      try simp only [Exit.inBlock, Exit.then]
      obtain ⟨cs', k', lo, hi', h1, h2, h3⟩ := HS.out.2.2.sl
      have hgl := HS.out.2.2.gl
      have hBw := HS.out.2.2.below
      first
        | (refine bodyPost_ret (results_tcc rfl _ _ w.heap.size (w.heap.size + 1) _ _ _ rfl rfl ((((R3.out.set 0 _).set 1 _).other (by show w.heap.size ≠ w.heap.size + 1; omega) _).other (by show w.heap.size ≠ w.heap.size + 1; omega) _) ((((R4.out.other (by show w.heap.size + 1 ≠ w.heap.size; omega) _).other (by show w.heap.size + 1 ≠ w.heap.size; omega) _).set 0 _).set 1 _) fault_agg fault_size fault_size) rfl ?_
           exact ⟨_, m, f, x, y, rfl, Lib.hid ⟨cs', k', ((((hBw.setCell (p := ⟨w.heap.size, 0, none⟩) (Nat.le_refl _) _).setCell (p := ⟨w.heap.size, 1, none⟩) (Nat.le_refl _) _).setCell (p := ⟨w.heap.size + 1, 0, none⟩) (Nat.le_succ _) _).setCell (p := ⟨w.heap.size + 1, 1, none⟩) (Nat.le_succ _) _).drew, (((((h3.set (.inl (by omega))).set (.inl (by omega))).set (.inl (by omega))).set (.inl (by omega))).sl.mono (by simp [World.setCell]; omega)).drewN 1⟩⟩)
        | (refine bodyPost_ret (results_tcc rfl _ _ w.heap.size (w.heap.size + 1) _ _ _ rfl rfl ((((R3.out.other (by show w.heap.size ≠ w.heap.size + 1; omega) _).other (by show w.heap.size ≠ w.heap.size + 1; omega) _).set 0 _).set 1 _) ((((R4.out.set 0 _).set 1 _).other (by show w.heap.size + 1 ≠ w.heap.size; omega) _).other (by show w.heap.size + 1 ≠ w.heap.size; omega) _) fault_agg fault_size fault_size) rfl ?_
           exact ⟨_, m, f, x, y, rfl, Lib.hid ⟨cs', k', ((((hBw.setCell (p := ⟨w.heap.size + 1, 0, none⟩) (Nat.le_succ _) _).setCell (p := ⟨w.heap.size + 1, 1, none⟩) (Nat.le_succ _) _).setCell (p := ⟨w.heap.size, 0, none⟩) (Nat.le_refl _) _).setCell (p := ⟨w.heap.size, 1, none⟩) (Nat.le_refl _) _).drew, (((((h3.set (.inl (by omega))).set (.inl (by omega))).set (.inl (by omega))).set (.inl (by omega))).sl.mono (by simp [World.setCell]; omega)).drewN 1⟩⟩)

end Go.Proofs.Ytoanefccnbnkmaa
