/- The draw DrawSparesFit; what the best spare is to ServeBest. -/
import Derived.Test.YthbkimojbbkeiaaSvG4
namespace Go.Proofs.Ythbkimojbbkeiaa
open Go.RowKit

/-- Results: a slot, and a cell of a struct. -/
theorem results_tc {P : Program} {fn : Func} {p u : Tmp} {ty : TypeId} (h : fn.results = #[.tmp u, .cell p ty]) (tmps : Array Value) (w : World) (g : Nat) (t : TypeId) (cs : Array Value)
    (hp : tmps.getD p undef = .pointer (some ⟨g, 0, none⟩)) (hg : Row w g t cs)
    (hu : ((P.underlying ty).any fun d => match d with | .struct _ | .array _ _ => true | _ => false) = true) (hi : (P.info? ty).map (·.size) = some cs.size) :
    (results fn tmps).run P w = .ok (.tuple #[tmps.getD u undef, .agg cs]) w := by
  have hp' : tmps[p]?.getD undef = .pointer (some ⟨g, 0, none⟩) := by simpa using hp
  cases hd : P.underlying ty with
  | none => rw [hd] at hu; simp at hu
  | some d =>
    rw [hd] at hu
    have hl := run_loadVar_row (P := P) w g t ty cs (0, 0) d hg hd (by cases d <;> simp_all) hi
    simp [results, h, hp', asAddr, hl, Result.andThen]
theorem St.base {w wa w' : World} {lo R p : Nat} (hb : Below w.heap.size w wa) (hR : R < w.heap.size) (h : St wa w' lo R p) : St w w' lo R p :=
  ⟨h.rd, grow2 ⟨hb.os, hb.tape, hb.output, hb.size, fun k hk _ => hb.block k hk⟩ h.gr, hR⟩
theorem Row.st {w w' : World} {g lo R p : Nat} {e : TypeId} {cur : Array Value} (h : Row w g e cur) (k : St w w' lo R p) (hd : g ≠ R) : Row w' g e cur := (k.gr.block g h.lt (by simp; omega)).trans h
theorem WrF.set {s : Nat} {e : TypeId} {w : World} {lo hi n g k : Nat} {v u : Value} {cs : List Int} (h : WrF s e w lo hi v cs n) (hg : g < lo ∨ hi ≤ g) : WrF s e (w.setCell ⟨g, k, none⟩ u) lo hi v cs n :=
  h.of_block fun j hj h1 h2 => Below.heap_setCell _ _ _ _ (by show j ≠ g; omega)
theorem set2B {B : Nat} {w w' : World} (h : Below B w w') {g : Nat} (hg : B ≤ g) (u v : Value) : Below B w ((w'.setCell ⟨g, 0, none⟩ u).setCell ⟨g, 1, none⟩ v) := (h.setCell (p := ⟨g, 0, none⟩) hg u).setCell (p := ⟨g, 1, none⟩) hg v
theorem spare_agg : ((Try.prog.underlying 35).any fun d => match d with | .struct _ | .array _ _ => true | _ => false) = true := by kernel_rfl
theorem spare_size : (Try.prog.info? 35).map (·.size) = some 2 := by kernel_rfl

set_option maxRecDepth 100000 in
set_option maxHeartbeats 1000000 in
theorem drawSparesFit_any (v : Value) (n hi : Nat) (w : World) (hv : By w hi v n) (hhi : hi ≤ w.heap.size) :
    Calls Try.prog 50 #[v] w fun e w' => ∃ r m f, e = .returned (.tuple #[r, .agg #[.int .i64 m, .int .i64 f]]) ∧ Hid (∃ cs k, Below w.heap.size w w' ∧ SlF 2 w' w'.heap.size r cs k ∧ k ≤ 12) := by
  have b0 := (Below.refl w.heap.size w).alloc (Nat.le_refl _) (.cells #[.int .i64 0, .int .i64 0] 35)
  have hv0 : By (w.alloc (.cells #[.int .i64 0, .int .i64 0] 35)) hi v n := hv.kept fun k hk => b0.block k (by omega)
  have B0 := Lib.hid b0
  have R0 := Lib.hid (Row.new w #[.int .i64 0, .int .i64 0] 35)
  clear b0 hv
  go_enter Try.func50, Try.ntmps50
  go_wp2_with fail
  refine (l6Open_any v n hi _ hv0 (by simp; omega)).mono ?_
  rintro e w1 ⟨rfl, b1, d1⟩
  rw [World.size_alloc] at d1
  have hz1 := d1.lt
  have B1 := Lib.hid (nextW B0.out b1)
  have R1 := Lib.hid (R0.out.old b1)
  have D1 := Lib.hid d1
  clear b1 d1 hv0 B0 R0
  go_wp2_with fail
  refine (l91Spares_any hi (w.heap.size + 1) 0 6 w1 D1.out (by omega) (by omega)).mono ?_
  rintro e w2 ⟨r, rfl, hd⟩
  obtain ⟨cs, k, p, hp, st, wr, hk⟩ := hd.out
  have hz2 := st.gr.size
  have R2 := Lib.hid (R1.out.st st (by omega))
  have ST2 := Lib.hid st
  have S2 := Lib.hid wr
  clear hd st wr D1 R1
  go_wp2_with fail
  refine (pick_any hi (w.heap.size + 1) p 9 _ ST2.out.rd (by omega) (by omega) (by omega)).mono ?_
  rintro e w3 ⟨a, rfl, ha, d3, o3, z3⟩
  have ST3 := Lib.hid (ST2.out.pick d3 o3)
  have S3 : Hid (WrF 2 35 w3 w1.heap.size w2.heap.size r cs k) := Lib.hid (S2.out.pick o3 hz1)
  have R3 := Lib.hid (R2.out.pick o3 (by omega))
  have hz3 : w2.heap.size ≤ w3.heap.size := o3.size
  clear d3 o3 z3 S2 ST2 R2
  go_wp2_with fail
  refine (pick_any hi (w.heap.size + 1) (p + 1) 20 _ ST3.out.rd (by omega) (by omega) (by omega)).mono ?_
  rintro e w4 ⟨u, rfl, hu, d4, o4, z4⟩
  have ST4 := Lib.hid (ST3.out.pick d4 o4)
  have S4 : Hid (WrF 2 35 w4 w1.heap.size w2.heap.size r cs k) := Lib.hid (S3.out.pick o4 hz1)
  have R4 := Lib.hid (R3.out.pick o4 (by omega))
  have hz4 : w3.heap.size ≤ w4.heap.size := o4.size
  have hq : (u : Int).tdiv 19 = ((u / 19 : Nat) : Int) := by rw [Int.tdiv_eq_ediv_of_nonneg (by omega)]; rfl
  have hq2 : u / 19 ≤ 1 := by omega
  clear d4 o4 z4 S3 ST3 R3
  revert hq hq2
  generalize u / 19 = q
  intro hq hq2
  go_wp2_with fail
  refine (pick_any hi (w.heap.size + 1) (p + 1 + 1) 3 _ ST4.out.rd (by omega) (by omega) (by omega)).mono ?_
  rintro e w5 ⟨t, rfl, ht, d5, o5, z5⟩
  have ST5 := Lib.hid (ST4.out.pick d5 o5)
  have S5 : Hid (WrF 2 35 w5 w1.heap.size w2.heap.size r cs k) := Lib.hid (S4.out.pick o5 hz1)
  have R5 := Lib.hid (R4.out.pick o5 (by omega))
  have hz5 : w4.heap.size ≤ w5.heap.size := o5.size
  have hs : (t : Int).tdiv 2 = ((t / 2 : Nat) : Int) := by rw [Int.tdiv_eq_ediv_of_nonneg (by omega)]; rfl
  have hs2 : t / 2 ≤ 1 := by omega
  clear d5 o5 z5 S4 ST4 R4
  revert hs hs2
  generalize t / 2 = s
  intro hs hs2
  have fin : Hid (∀ x y : Int, ∃ cs k, Below w.heap.size w ((w5.setCell ⟨w.heap.size, 0, none⟩ (.int .i64 x)).setCell ⟨w.heap.size, 1, none⟩ (.int .i64 y)) ∧ SlF 2 ((w5.setCell ⟨w.heap.size, 0, none⟩ (.int .i64 x)).setCell ⟨w.heap.size, 1, none⟩ (.int .i64 y)) ((w5.setCell ⟨w.heap.size, 0, none⟩ (.int .i64 x)).setCell ⟨w.heap.size, 1, none⟩ (.int .i64 y)).heap.size r cs k ∧ k ≤ 12) :=
    Lib.hid fun x y => ⟨cs, k, set2B (st_below B1.out ST5.out (by omega)) (Nat.le_refl _) _ _, ((S5.out.set (.inl (by omega))).set (.inl (by omega))).sl.mono (by simp [World.setCell]; omega), hk⟩
  have k2 : _ = some (Value.int .i64 0) := R5.out.cell 0
  have k3 : _ = some (Value.int .i64 0) := R5.out.cell 1
  have z0 := R5.out.frozen 0
  have z1 := R5.out.frozen 1
  have v1 : IntKind.i64.wrap (1 + (a : Int)) = 1 + (a : Int) := IntWalk.i64_in _ (by omega)
  have v2 : IntKind.i64.wrap ((q : Int) * 9) = (q : Int) * 9 := IntWalk.i64_in _ (by omega)
  have v3 : IntKind.i64.wrap (1 + (a : Int) - (q : Int) * 9) = 1 + (a : Int) - (q : Int) * 9 := IntWalk.i64_in _ (by omega)
  go_wp2
  try simp only [Exit.inBlock, Exit.then]
  refine bodyPost_ret (results_tc rfl _ _ w.heap.size _ _ rfl ((R5.out.set 0 _).set 1 _) spare_agg spare_size) rfl ?_
  obtain ⟨cs', k', f1, f2⟩ := fin.out (1 + (a : Int) - (q : Int) * 9) (s : Int)
  exact ⟨_, _, _, rfl, Lib.hid ⟨cs', k', f1, f2⟩⟩

/-- Where some spare fits, it alone is the best serving. -/
theorem fit_best {cs : List Int} {n : Nat} {nm nk : Int} (h : fitB cs n nm nk = true) :
    ∃ f : Nat, f < n ∧ fitI cs n nm nk = (f : Int) ∧ (nm ≤ smi cs f ∧ ski cs f = nk) ∧ (∀ i, i < n → ski cs i = nk → nm ≤ smi cs i → smi cs f ≤ smi cs i ∧ (i < f → smi cs f < smi cs i)) ∧ (sbL cs n [nm, nk] 1 = [(f : Int)] ∧ scB cs n [nm, nk] 1 = true) := by
  have hr : 0 ≤ fitR cs n nm nk := by unfold fitB at h; exact of_decide_eq_true h
  have hok : fitOk cs n nm nk = true := by
    cases e : fitOk cs n nm nk with
    | true => rfl
    | false => unfold fitR at hr; rw [e] at hr; simp at hr
  have hr2 : fitR cs n nm nk = fitTo cs nm nk n := by unfold fitR; rw [if_pos hok]
  rw [hr2] at hr
  have h1 := (fitTo_best (cs := cs) (nm := nm) (nk := nk) (k := n)).2 hr
  have hb := fitTo_bd (cs := cs) (nm := nm) (nk := nk) (k := n)
  have hok2 := hok
  unfold fitOk at hok2
  rw [Bool.and_eq_true, Bool.and_eq_true, spB_true, inB_true, inB_true] at hok2
  obtain ⟨⟨g1, g2⟩, g3, g4⟩ := hok2
  obtain ⟨f, hf, ⟨e1, -⟩, e2, -, e3⟩ := fit_of (k := (fitTo cs nm nk n).toNat) ⟨by omega, g2⟩ ⟨g3, g4⟩ (by omega) h1.1
  have key : ∀ i, i < n → ski cs i = nk → nm ≤ smi cs i → smi cs f ≤ smi cs i ∧ (i < f → smi cs f < smi cs i) := fun i hi a b => e3 i hi (srB_true.2 ⟨a, b⟩)
  have d0 : smi [nm, nk] 0 = nm := rfl
  have d1 : ski [nm, nk] 0 = nk := rfl
  have hbb : bothB cs n [nm, nk] 1 = true := by
    unfold bothB
    rw [Bool.and_eq_true, spB_true, spB_one (by omega), Bool.and_eq_true, inB_true, inB_true]
    exact ⟨⟨g1, g2⟩, g3, g4⟩
  have hv : svB cs n [nm, nk] 1 [(f : Int)] = true := by
    refine svB_true.2 ⟨hbb, rfl, fun x hx => ?_⟩
    obtain rfl : x = 0 := by omega
    unfold vB
    rw [Bool.and_eq_true, Bool.and_eq_true, inB_true, d0, d1]
    have eg : gi [(f : Int)] 0 = (f : Int) := rfl
    rw [eg, Int.toNat_natCast]
    exact ⟨by omega, by simp [memB], e2⟩
  have hsc := (sv_can hv).1
  obtain ⟨hB, hl, hw, hg⟩ := best_of_sc hsc
  refine ⟨f, hf, e1, ⟨(srB_true.1 e2).2, (srB_true.1 e2).1⟩, key, ?_, hsc⟩
  have hle := best_le hv
  rw [sw_lo hB, sw_lo hv] at hle
  obtain ⟨-, hm⟩ := svB_mem.1 hB
  have hx := (vAt_iff (by omega)).1 ((mem_all.1 hm).2 0 (by omega))
  rw [d0, d1] at hx
  obtain ⟨j, hj⟩ := Int.eq_ofNat_of_zero_le hx.1.1
  rw [hj, Int.toNat_natCast] at hx
  have hkey := key j (by omega) hx.2.2.1 hx.2.2.2
  have w1 : wst cs [nm, nk] (sbL cs n [nm, nk] 1) 1 = smi cs j - nm := by rw [wst, wst, hj, d0, Int.toNat_natCast]; omega
  have w2 : wst cs [nm, nk] [(f : Int)] 1 = smi cs f - nm := by rw [wst, wst, d0, show gi [(f : Int)] 0 = (f : Int) from rfl, Int.toNat_natCast]; omega
  rw [w1, w2] at hle
  obtain ⟨-, hmf⟩ := svB_mem.1 hv
  rcases grd_first (m := 1) 1 [] _ (by simp) hmf (by rw [← hg, w1, w2]; omega) with e | ⟨i, hi, -, hlt⟩
  · rw [hg, ← e]
  · obtain rfl : i = 0 := by omega
    rw [← hg, hj, show gi [(f : Int)] 0 = (f : Int) from rfl] at hlt
    have := hkey.2 (by omega)
    omega

end Go.Proofs.Ythbkimojbbkeiaa
