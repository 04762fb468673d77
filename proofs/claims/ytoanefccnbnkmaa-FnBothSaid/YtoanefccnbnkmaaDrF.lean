/- Draws of chapter 3: l91Fault. -/
import Derived.Test.YtoanefccnbnkmaaDrM
import Derived.Test.YtoanefccnbnkmaaRatio
namespace Go.Proofs.Ytoanefccnbnkmaa
open Go.RowKit

/-- Results: a slot, and a cell of a struct. -/
theorem results_tc {P : Program} {fn : Func} {p u : Tmp} {ty : TypeId} (h : fn.results = #[.tmp u, .cell p ty]) (tmps : Array Value) (w : World) (g : Nat) (t : TypeId) (cs : Array Value)
    (hp : tmps.getD p undef = .pointer (some ⟨g, 0, none⟩)) (hg : Row w g t cs)
    (hu : ((P.underlying ty).any fun d => match d with | .struct _ | .array _ _ => true | _ => false) = true) (hi : (P.info? ty).map (·.size) = some cs.size) :
    (results fn tmps).run P w = .ok (.tuple #[tmps.getD u undef, .agg cs]) w := by
  have hp' : tmps[p]?.getD undef = .pointer (some ⟨g, 0, none⟩) := by simpa using hp
  cases hd : P.underlying ty with
  | none => rw [hd] at hu; simp at hu
  | some d =>
    rw [hd] at hu
    have hl := run_loadVar_row (P := P) w g t ty cs (0, 0) d hg hd (by cases d <;> simp_all) hi
    simp [results, h, hp', asAddr, hl, Result.andThen]

theorem St.base {w wa w' : World} {lo R p : Nat} (hb : Below w.heap.size w wa) (hR : R < w.heap.size) (h : St wa w' lo R p) : St w w' lo R p :=
  ⟨h.rd, grow2 ⟨hb.os, hb.tape, hb.output, hb.size, fun k hk _ => hb.block k hk⟩ h.gr, hR⟩
theorem Row.st {w w' : World} {g lo R p : Nat} {e : TypeId} {cur : Array Value} (h : Row w g e cur) (k : St w w' lo R p) (hd : g ≠ R) : Row w' g e cur := (k.gr.block g h.lt (by simp; omega)).trans h
theorem WrF.set {s : Nat} {e : TypeId} {w : World} {lo hi n g k : Nat} {v u : Value} {cs : List Int} (h : WrF s e w lo hi v cs n) (hg : g < lo ∨ hi ≤ g) : WrF s e (w.setCell ⟨g, k, none⟩ u) lo hi v cs n :=
  h.of_block fun j hj h1 h2 => Below.heap_setCell _ _ _ _ (by show j ≠ g; omega)

/-- What l91Fault leaves. -/
def FaultD (w w' : World) (lo R p : Nat) (v : Value) (m f : Int) : Prop := ∃ cs n p', p' ≤ p + 80 ∧ St w w' lo R p' ∧ WrF 3 76 w' w.heap.size w'.heap.size v cs n ∧ n ≤ 13 ∧ (-1 ≤ m ∧ m ≤ 402) ∧ (-1 ≤ f ∧ f ≤ 1001)

theorem pick4 {a b c d : Int} {t : Nat} (ht : t < 4) (ha : -1 ≤ a ∧ a ≤ 1001) (hb : -1 ≤ b ∧ b ≤ 1001) (hc : -1 ≤ c ∧ c ≤ 1001) (hd : -1 ≤ d ∧ d ≤ 1001) :
    ∃ u : Int, (#[.int .i64 a, .int .i64 b, .int .i64 c, .int .i64 d] : Array Value)[t]? = some (.int .i64 u) ∧ -1 ≤ u ∧ u ≤ 1001 := by
  match t, ht with
  | 0, _ => exact ⟨a, rfl, ha.1, ha.2⟩
  | 1, _ => exact ⟨b, rfl, hb.1, hb.2⟩
  | 2, _ => exact ⟨c, rfl, hc.1, hc.2⟩
  | 3, _ => exact ⟨d, rfl, hd.1, hd.2⟩

set_option maxRecDepth 100000 in
set_option maxHeartbeats 2000000 in
theorem l91Fault_any (lo R p : Nat) (w : World) (hr : Rd w lo R p) (hp : p ≤ 700000) :
    Calls Try.prog 70 #[.pointer (some ⟨R, 0, none⟩)] w fun e w' => ∃ v m f, e = .returned (.tuple #[v, .agg #[.int .i64 m, .int .i64 f]]) ∧ Hid (FaultD w w' lo R p v m f) := by
  have hRw := hr.lt
  have b0 := (Below.refl w.heap.size w).alloc (Nat.le_refl _) (.cells #[.int .i64 0, .int .i64 0] 41)
  have S0 := Lib.hid ((St.start hr).below b0)
  have B0 := Lib.hid b0
  have R0 := Lib.hid (Row.new w #[.int .i64 0, .int .i64 0] 41)
  clear hr b0
  go_enter Try.func70, Try.ntmps70
  go_wp2_with fail
  refine (l91Mile_any lo R p _ S0.out.rd (by omega)).mono ?_
  rintro e w1 ⟨v, m, rfl, hd⟩
  obtain ⟨cs, n, p1, hp1, st, wr, hn, hm1, hm2⟩ := hd.out
  rw [World.size_alloc] at wr
  have hz1 : w.heap.size + 1 ≤ w1.heap.size := by have := st.gr.size; simpa using this
  have ST1 := Lib.hid (st.base B0.out hRw)
  have WR1 := Lib.hid wr
  have R1 := Lib.hid (R0.out.st st (by omega))
  clear hd st wr S0 B0 R0
  go_wp2_with fail
  refine (pick_any lo R p1 40 _ ST1.out.rd (by omega) (by omega) (by omega)).mono ?_
  rintro e w2 ⟨q, rfl, hq, d2, o2, z2⟩
  have hz2 : w1.heap.size ≤ w2.heap.size := o2.size
  have ST2 := Lib.hid (ST1.out.pick d2 o2)
  have WR2 := Lib.hid (WR1.out.pick o2 (by omega))
  have R2 := Lib.hid (R1.out.pick o2 (by omega))
  have b3 := (Below.refl w2.heap.size w2).alloc (Nat.le_refl _) (.cells #[.int .i64 m, .int .i64 (q : Int)] 41)
  have ST3 := Lib.hid (ST2.out.below (b3.mono (by omega)))
  have WR3 := Lib.hid (WR2.out.old b3)
  have R3 := Lib.hid (R2.out.old b3)
  have F3 := Lib.hid (Row.new w2 #[.int .i64 m, .int .i64 (q : Int)] 41)
  clear d2 o2 z2 b3 ST1 WR1 R1 ST2 WR2 R2
  go_wp2_with fail
  refine (pick_any lo R (p1 + 1) 16 _ ST3.out.rd (by omega) (by omega) (by omega)).mono ?_
  rintro e w4 ⟨r, rfl, hr, d4, o4, z4⟩
  have hz4 : w2.heap.size < w4.heap.size := by have := o4.size; simp at this; omega
  have ST4 := Lib.hid (ST3.out.pick d4 o4)
  have WR4 := Lib.hid (WR3.out.pick o4 (by omega))
  have R4 := Lib.hid (R3.out.pick o4 (by omega))
  have F4 := Lib.hid (F3.out.pick o4 (by omega))
  clear d4 o4 z4 ST3 WR3 R3 F3
  have fin : Hid (∀ (W : World) (f : Int) (P : Nat), P ≤ p1 + 3 → St w W lo R P → WrF 3 76 W (w.heap.size + 1) w1.heap.size v cs n → w1.heap.size ≤ W.heap.size → -1 ≤ f ∧ f ≤ 1001 → FaultD w (((W.setCell ⟨w.heap.size, 0, none⟩ (.int .i64 m)).setCell ⟨w.heap.size, 1, none⟩ (.int .i64 f)).drew) lo R p v m f) :=
    Lib.hid fun W f P h1 h2 h3 h4 h5 => ⟨cs, n, P, by omega, h2.below (set2B (Below.refl _ _) (Nat.le_refl _) _ _).drew, ((h3.set (.inl (by omega))).set (.inl (by omega))).mono (by omega) (by simpa [World.setCell, World.drew] using h4), hn, ⟨hm1, hm2⟩, h5⟩
  by_cases hr0 : r = 0
  · subst hr0
    have b5 := (Below.refl w4.heap.size w4).alloc (Nat.le_refl _) (.cells #[.int .i64 (-1), .int .i64 1000, .int .i64 1001, .int .i64 0] 3)
    have ST5 := Lib.hid (ST4.out.below (b5.mono (by omega)))
    have WR5 := Lib.hid (WR4.out.old b5)
    have R5 := Lib.hid (R4.out.old b5)
    have F5 := Lib.hid (F4.out.old b5)
    have L5 := Lib.hid (Row.new w4 #[.int .i64 (-1), .int .i64 1000, .int .i64 1001, .int .i64 0] 3)
    clear b5 ST4 WR4 R4 F4
    go_wp2_with fail
    refine (pick_any lo R (p1 + 1 + 1) 4 _ ST5.out.rd (by omega) (by omega) (by omega)).mono ?_
    rintro e w6 ⟨t, rfl, ht, d6, o6, z6⟩
    have hz6 : w4.heap.size ≤ w6.heap.size := by have := o6.size; simp at this; omega
    have ST6 := Lib.hid (ST5.out.pick d6 o6)
    have WR6 := Lib.hid (WR5.out.pick o6 (by omega))
    have R6 := Lib.hid (R5.out.pick o6 (by omega))
    have F6 := Lib.hid (F5.out.pick o6 (by omega))
    obtain ⟨u, hu, hu1, hu2⟩ := pick4 (a := -1) (b := 1000) (c := 1001) (d := 0) ht (by omega) (by omega) (by omega) (by omega)
    have hc := ((L5.out.pick o6 (by omega)).cell t).trans hu
    have ht2 : (t : Int) < 4 := by omega
    have k1 : _ = some (Value.int .i64 (q : Int)) := F6.out.cell 1
    have z1 := F6.out.frozen 1
    have B7 := Lib.hid ((Below.refl w2.heap.size w6).setCell (p := ⟨w2.heap.size, 1, none⟩) (Nat.le_refl _) (.int .i64 u))
    have ST7 := Lib.hid (ST6.out.below (B7.out.mono (by omega)))
    have WR7 := Lib.hid (WR6.out.set (g := w2.heap.size) (k := 1) (u := .int .i64 u) (.inr hz2))
    have R7 := Lib.hid (R6.out.other (a := ⟨w2.heap.size, 1, none⟩) (by show w.heap.size ≠ w2.heap.size; omega) (.int .i64 u))
    have F7 := Lib.hid (F6.out.set 1 (.int .i64 u))
    have hz7 : w1.heap.size ≤ (w6.setCell ⟨w2.heap.size, 1, none⟩ (.int .i64 u)).heap.size := by simp [World.setCell]; omega
    clear d6 o6 z6 ST5 WR5 R5 F5 L5 hu ST6 WR6 R6 F6 B7
    go_upto_region 5 with (fail)
    clear hc k1 z1
    revert ST7 WR7 R7 F7 hz7
    generalize w6.setCell ⟨w2.heap.size, 1, none⟩ (.int .i64 u) = W7
    intro ST7 WR7 R7 F7 hz7
    have k0 : _ = some (Value.int .i64 m) := F7.out.cell 0
    have k1 : _ = some (Value.int .i64 u) := F7.out.cell 1
    have k2 : _ = some (Value.int .i64 0) := R7.out.cell 0
    have k3 : _ = some (Value.int .i64 0) := R7.out.cell 1
    have z0 := R7.out.frozen 0
    have z1 := R7.out.frozen 1
    go_region
    go_wp2
    try simp only [Exit.inBlock, Exit.then]
    refine bodyPost_ret (results_tc rfl _ _ w.heap.size _ _ rfl ((R7.out.set 0 _).set 1 _) fault_agg fault_size) rfl ?_
    exact ⟨_, m, u, rfl, Lib.hid (fin.out _ u _ (by omega) ST7.out WR7.out hz7 ⟨hu1, hu2⟩)⟩
  · have hb : ((r : Int) == 0) = false := by simp; omega
    have k0 : _ = some (Value.int .i64 m) := F4.out.cell 0
    have k1 : _ = some (Value.int .i64 (q : Int)) := F4.out.cell 1
    have k2 : _ = some (Value.int .i64 0) := R4.out.cell 0
    have k3 : _ = some (Value.int .i64 0) := R4.out.cell 1
    have z0 := R4.out.frozen 0
    have z1 := R4.out.frozen 1
    go_wp2
    go_region
    go_wp2
    try simp only [Exit.inBlock, Exit.then]
    refine bodyPost_ret (results_tc rfl _ _ w.heap.size _ _ rfl ((R4.out.set 0 _).set 1 _) fault_agg fault_size) rfl ?_
    exact ⟨_, m, (q : Int), rfl, Lib.hid (fin.out _ (q : Int) _ (by omega) ST4.out WR4.out (by omega) (by omega))⟩

end Go.Proofs.Ytoanefccnbnkmaa
