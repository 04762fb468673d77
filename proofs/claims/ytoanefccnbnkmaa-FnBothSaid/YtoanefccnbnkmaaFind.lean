/- Contracts: FaultFind of the program and of the reference. -/
import Derived.Test.YtoanefccnbnkmaaEach
import Derived.RegionTactic
import Derived.Deep.Cut
import Derived.Laws.ResultCell
import Derived.Laws.Rows
namespace Go.Proofs.Ytoanefccnbnkmaa
open Go.RowKit

theorem implFaultOpen_is {A B : Int} {p : Bool} (v : Value) (m f : Int) (cs : List Int) (n hi : Nat) (w : World) (hv : SlF 3 w hi v cs n) (h : opA cs n m f = A ∧ opB cs n m f = B ∧ fvB cs n m f = p) :
    Calls Try.prog 41 #[v, .agg #[.int .i64 m, .int .i64 f]] w fun e w' => e = .returned (.tuple #[.int .i64 A, .int .i64 B, .bool p]) ∧ Below w.heap.size w w' := by
  obtain ⟨rfl, rfl, rfl⟩ := h
  exact implFaultOpen_b v m f cs n hi w hv
theorem specFaultOpen_is {A B : Int} {p : Bool} (v : Value) (m f : Int) (cs : List Int) (n hi : Nat) (w : World) (hv : SlF 3 w hi v cs n) (h : opA cs n m f = A ∧ opB cs n m f = B ∧ fvB cs n m f = p) :
    Calls Try.prog 56 #[v, .agg #[.int .i64 m, .int .i64 f]] w fun e w' => e = .returned (.tuple #[.int .i64 A, .int .i64 B, .bool p]) ∧ Below w.heap.size w w' := by
  obtain ⟨rfl, rfl, rfl⟩ := h
  exact specFaultOpen_b v m f cs n hi w hv

/-- Results: a cell of a struct, and a slot. -/
theorem results_cell2 {P : Program} {fn : Func} {p u : Tmp} {ty : TypeId} (h : fn.results = #[.cell p ty, .tmp u]) (tmps : Array Value) (w : World) (g : Nat) (t : TypeId) (cs : Array Value)
    (hp : tmps.getD p undef = .pointer (some ⟨g, 0, none⟩)) (hg : Row w g t cs)
    (hu : ((P.underlying ty).any fun d => match d with | .struct _ | .array _ _ => true | _ => false) = true) (hi : (P.info? ty).map (·.size) = some cs.size) :
    (results fn tmps).run P w = .ok (.tuple #[.agg cs, tmps.getD u undef]) w := by
  have hp' : tmps[p]?.getD undef = .pointer (some ⟨g, 0, none⟩) := by simpa using hp
  rw [results_cell_tmp h]
  cases hd : P.underlying ty with
  | none => rw [hd] at hu; simp at hu
  | some d =>
    rw [hd] at hu
    simp [hp', asAddr, run_loadVar_row w g t ty cs (0, 0) d hg hd (by cases d <;> simp_all) hi, Result.andThen]
theorem fault_agg : ((Try.prog.underlying 41).any fun d => match d with | .struct _ | .array _ _ => true | _ => false) = true := by kernel_rfl
theorem fault_size : (Try.prog.info? 41).map (·.size) = some 2 := by kernel_rfl

/-- What FaultFind answers. -/
def ffM (cs : List Int) (n : Nat) (a b : Int) : Int := if 0 ≤ fdM cs n a b then fdM cs n a b else 0
def ffO (cs : List Int) (n : Nat) (a b : Int) : Int := if 0 ≤ fdM cs n a b then a - ohmsI cs n (fdM cs n a b) else 0
def ffB (cs : List Int) (n : Nat) (a b : Int) : Bool := decide (0 ≤ fdM cs n a b)
theorem fdTo_stay {cs : List Int} {n : Nat} {a b : Int} {k : Nat} (h : 0 ≤ fdTo cs n a b k) : ∀ m, k ≤ m → fdTo cs n a b m = fdTo cs n a b k
  | 0, hm => by
    have : k = 0 := by omega
    subst this; rfl
  | m + 1, hm => by
    by_cases e : k = m + 1
    · subst e; rfl
    · have ih := fdTo_stay h m (by omega)
      simp only [fdTo, ih, if_pos h]
theorem ff_yes {cs : List Int} {n : Nat} {a b : Int} {k : Nat} (hk : k < nMl cs n) (h : fdTo cs n a b (k + 1) = k) : ffM cs n a b = k ∧ ffO cs n a b = a - ohmsI cs n k ∧ ffB cs n a b = true := by
  have e : fdM cs n a b = k := by
    unfold fdM
    rw [fdTo_stay (k := k + 1) (by rw [h]; omega) _ (by omega), h]
  have h0 : (0 : Int) ≤ k := by omega
  simp only [ffM, ffO, ffB, e, if_pos h0, decide_eq_true h0, and_self]
theorem ff_no {cs : List Int} {n : Nat} {a b : Int} (h : fdTo cs n a b (nMl cs n) < 0) : ffM cs n a b = 0 ∧ ffO cs n a b = 0 ∧ ffB cs n a b = false := by
  have h0 : ¬ 0 ≤ fdM cs n a b := by unfold fdM; omega
  simp only [ffM, ffO, ffB, if_neg h0, decide_eq_false h0, and_self]
theorem fdTo_next {cs : List Int} {n : Nat} {a b : Int} {k : Nat} (h : fdTo cs n a b k < 0) : fdTo cs n a b (k + 1) = if hitB cs n a b k then (k : Int) else -1 := by
  have : ¬ 0 ≤ fdTo cs n a b k := by omega
  simp only [fdTo, if_neg this]
/-- Below the number of miles a fault is one of the cable. -/
theorem fv_of {cs : List Int} {n k : Nat} {f : Int} (hk : k < nMl cs n) (h : inB f 0 1000 = true) : fvB cs n k f = true := by
  have hb := milesI_bd (cs := cs) (n := n)
  have : inB (k : Int) 0 (milesI cs n) = true := inB_true.2 ⟨by omega, by unfold nMl at hk; omega⟩
  simp only [fvB, this, h]; rfl
theorem op_fv {cs : List Int} {n : Nat} {m f : Int} (h : fvB cs n m f = true) : opA cs n m f = ohmsI cs n m + f ∧ opB cs n m f = allI cs n - ohmsI cs n m + f := by
  unfold opA opB; rw [if_pos h, if_pos h]; exact ⟨rfl, rfl⟩

/-- The variables of FaultFind, before a fault is found. -/
structure FfI (w : World) (v : Value) (b : Int) (W : World) : Prop where
  cab : Row W w.heap.size 29 #[v]
  num : Row W (w.heap.size + 1) 3 #[.int .i64 b]
  res : Row W (w.heap.size + 2) 41 #[.int .i64 0, .int .i64 0]
  fnd : Row W (w.heap.size + 3) 41 #[.int .i64 0, .int .i64 0]
  ok : Row W (w.heap.size + 4) 4 #[.bool false]
  bel : Below w.heap.size w W
theorem FfI.old {w : World} {v : Value} {b : Int} {W W' : World} (h : FfI w v b W) (hb : Below W.heap.size W W') : FfI w v b W' :=
  ⟨h.cab.old hb, h.num.old hb, h.res.old hb, h.fnd.old hb, h.ok.old hb, h.bel.trans (hb.mono h.bel.size)⟩
/-- .. and when one is. -/
structure FfX (w : World) (cs : List Int) (n : Nat) (a b : Int) (W : World) : Prop where
  got : ∃ k : Nat, k < nMl cs n ∧ fdTo cs n a b (k + 1) = k ∧ Row W (w.heap.size + 3) 41 #[.int .i64 k, .int .i64 (a - ohmsI cs n k)]
  res : Row W (w.heap.size + 2) 41 #[.int .i64 0, .int .i64 0]
  ok : Row W (w.heap.size + 4) 4 #[.bool true]
  bel : Below w.heap.size w W

set_option maxHeartbeats 1000000 in
theorem findStep (w : World) (v : Value) (cs : List Int) (n hi : Nat) (a b : Int) (hv : SlF 3 w hi v cs n) (k : Nat) (W : World) (hk : k < nMl cs n) (hI : FfI w v b W) (hno : fdTo cs n a b k < 0) (hin : inB (a - ohmsI cs n k) 0 1000 = true) :
    Calls Try.prog 68 #[.agg #[.int .i64 (k : Int), .int .i64 (a - ohmsI cs n k)], .pointer (some ⟨w.heap.size, 0, none⟩), .pointer (some ⟨w.heap.size + 1, 0, none⟩), .pointer (some ⟨w.heap.size + 3, 0, none⟩), .pointer (some ⟨w.heap.size + 4, 0, none⟩)] W
      fun e W' => (e = .returned (.bool true) ∧ (FfI w v b W' ∧ fdTo cs n a b (k + 1) < 0)) ∨ (e = .returned (.bool false) ∧ FfX w cs n a b W') := by
  have hfv := fv_of hk hin
  have ho := op_fv hfv
  have hhit : hitB cs n a b k = (opB cs n k (a - ohmsI cs n k) == b) := by
    unfold hitB
    rw [hin, ho.2]; rfl
  have HNX := Lib.hid (fdTo_next hno)
  rw [hhit] at HNX
  obtain ⟨F, hF⟩ : ∃ F, a - ohmsI cs n k = F := ⟨_, rfl⟩
  have HFE := Lib.hid hF
  rw [hF] at hfv HNX ⊢
  obtain ⟨A, hA⟩ : ∃ A, opA cs n k F = A := ⟨_, rfl⟩
  obtain ⟨B, hB⟩ : ∃ B, opB cs n k F = B := ⟨_, rfl⟩
  rw [hB] at HNX
  have HO := Lib.hid (And.intro hA (And.intro hB hfv))
  have bx := box2 W (k : Int) F 41
  have HI := Lib.hid (hI.old bx.1)
  have V1 := Lib.hid ((hv.old hI.bel).old bx.1)
  have c0 : (W.alloc (.cells #[.int .i64 (k : Int), .int .i64 F] 41)).cell? ⟨w.heap.size, 0, none⟩ = some v := by rw [HI.out.cab.cell]; rfl
  have BX := Lib.hid bx
  have HK := Lib.hid hk
  clear hI hv hfv ho hhit hno hin hF bx hk hA hB
  go_enter Try.func68, Try.ntmps68
  go_wp2_with fail
  refine (implFaultOpen_is _ _ _ cs n hi _ V1.out HO.out).mono ?_
  rintro e w1 ⟨rfl, b1⟩
  have HI1 := Lib.hid (HI.out.old b1)
  have d1 : w1.cell? ⟨w.heap.size + 1, 0, none⟩ = some (.int .i64 b) := by rw [HI1.out.num.cell]; rfl
  have d3 : w1.cell? ⟨w.heap.size + 4, 0, none⟩ = some (.bool false) := by rw [HI1.out.ok.cell]; rfl
  have f0 := cellB BX.out.2.1 b1
  have f1 := cellB BX.out.2.2 b1
  have e0 : w1.cell? ⟨w.heap.size + 3, 0, none⟩ = some (.int .i64 0) := by rw [HI1.out.fnd.cell]; rfl
  have e1 : w1.cell? ⟨w.heap.size + 3, 1, none⟩ = some (.int .i64 0) := by rw [HI1.out.fnd.cell]; rfl
  have z0 := HI1.out.fnd.frozen 0
  have z1 := HI1.out.fnd.frozen 1
  have z2 := HI1.out.ok.frozen 0
  clear b1
  cases hb : (B == b) with
  | true =>
    go_wp2
    go_ret
    refine .inr ⟨rfl, ?_⟩
    rw [hb] at HNX
    have hb1 := ((HI1.out.bel.setCell (p := ⟨w.heap.size + 3, 0, none⟩) (by show w.heap.size ≤ w.heap.size + 3; omega) (.int .i64 (k : Int))).setCell (p := ⟨w.heap.size + 3, 1, none⟩) (by show w.heap.size ≤ w.heap.size + 3; omega) (.int .i64 F)).setCell (p := ⟨w.heap.size + 4, 0, none⟩) (by show w.heap.size ≤ w.heap.size + 4; omega) (.bool true)
    refine ⟨⟨k, HK.out, by have := HNX.out; simpa using this, ?_⟩, ?_, ?_, hb1⟩
    · rw [HFE.out]
      exact ((HI1.out.fnd.set 0 _).set 1 _).other (a := ⟨w.heap.size + 4, 0, none⟩) (by show w.heap.size + 3 ≠ w.heap.size + 4; omega) _
    · exact ((HI1.out.res.other (a := ⟨w.heap.size + 3, 0, none⟩) (by show w.heap.size + 2 ≠ w.heap.size + 3; omega) _).other (a := ⟨w.heap.size + 3, 1, none⟩) (by show w.heap.size + 2 ≠ w.heap.size + 3; omega) _).other (a := ⟨w.heap.size + 4, 0, none⟩) (by show w.heap.size + 2 ≠ w.heap.size + 4; omega) _
    · exact ((HI1.out.ok.other (a := ⟨w.heap.size + 3, 0, none⟩) (by show w.heap.size + 4 ≠ w.heap.size + 3; omega) _).other (a := ⟨w.heap.size + 3, 1, none⟩) (by show w.heap.size + 4 ≠ w.heap.size + 3; omega) _).set 0 _
  | false =>
    go_wp2
    go_ret
    rw [hb] at HNX
    exact .inl ⟨rfl, HI1.out, by have := HNX.out; simp at this; omega⟩

set_option maxHeartbeats 1000000 in
theorem implFaultFind_b (v : Value) (a b : Int) (cs : List Int) (n hi : Nat) (w : World) (hv : SlF 3 w hi v cs n) (ha : -9223372036854775808 ≤ a ∧ a ≤ 9223372036854775807) :
    Calls Try.prog 31 #[v, .int .i64 a, .int .i64 b] w fun e w' => e = .returned (.tuple #[.agg #[.int .i64 (ffM cs n a b), .int .i64 (ffO cs n a b)], .bool (ffB cs n a b)]) ∧ Below w.heap.size w w' := by
  have x1 : ∀ (W : World), Below w.heap.size w W → Below w.heap.size w W := fun _ h => h
  obtain ⟨W0, hW0⟩ : ∃ W0, ((((w.alloc (.cells #[v] 29)).alloc (.cells #[.int .i64 b] 3)).alloc (.cells #[.int .i64 0, .int .i64 0] 41)).alloc (.cells #[.int .i64 0, .int .i64 0] 41)).alloc (.cells #[.bool false] 4) = W0 := ⟨_, rfl⟩
  have hI0 : FfI w v b W0 := by
    have a1 := Row.new w #[v] 29
    have a2 := Row.new (w.alloc (.cells #[v] 29)) #[.int .i64 b] 3
    have a3 := Row.new ((w.alloc (.cells #[v] 29)).alloc (.cells #[.int .i64 b] 3)) #[.int .i64 0, .int .i64 0] 41
    have a4 := Row.new (((w.alloc (.cells #[v] 29)).alloc (.cells #[.int .i64 b] 3)).alloc (.cells #[.int .i64 0, .int .i64 0] 41)) #[.int .i64 0, .int .i64 0] 41
    have a5 := Row.new ((((w.alloc (.cells #[v] 29)).alloc (.cells #[.int .i64 b] 3)).alloc (.cells #[.int .i64 0, .int .i64 0] 41)).alloc (.cells #[.int .i64 0, .int .i64 0] 41)) #[.bool false] 4
    simp only [World.size_alloc] at a2 a3 a4 a5
    have nx := fun (X : World) (o : Obj) => (Below.refl X.heap.size X).alloc (Nat.le_refl _) o
    subst hW0
    exact ⟨(((a1.old (nx _ _)).old (nx _ _)).old (nx _ _)).old (nx _ _), ((a2.old (nx _ _)).old (nx _ _)).old (nx _ _), (a3.old (nx _ _)).old (nx _ _), a4.old (nx _ _), a5, (((((Below.refl _ w).alloc (Nat.le_refl _) _).alloc (by simp) _).alloc (by simp; omega) _).alloc (by simp; omega) _).alloc (by simp; omega) _⟩
  have hmain := each_FaultFind v cs n hi a (.pointer (some ⟨w.heap.size, 0, none⟩)) (.pointer (some ⟨w.heap.size + 1, 0, none⟩)) (.pointer (some ⟨w.heap.size + 3, 0, none⟩)) (.pointer (some ⟨w.heap.size + 4, 0, none⟩))
    (fun k W => FfI w v b W ∧ fdTo cs n a b k < 0) (FfX w cs n a b) W0 ha ⟨hI0, by simp [fdTo]⟩ (fun k W h => hv.old h.1.bel) (fun k W W' h hb => ⟨h.1.old hb, h.2⟩)
    (fun k W hk h hin => ⟨h.1, by rw [fdTo_next h.2]; simp [hitB, hin]⟩) (fun k W hk h hin => findStep w v cs n hi a b hv k W hk h.1 h.2 hin)
  have HM := Lib.hid hmain
  have c0 : W0.cell? ⟨w.heap.size, 0, none⟩ = some v := by rw [hI0.cab.cell]; rfl
  clear hmain hI0 x1 ha
  obtain ⟨a0, cap0, rfl, -⟩ := hv
  have HC0 := Lib.hid c0
  have HW0 := Lib.hid hW0
  clear c0 hW0
  go_enter Try.func31, Try.ntmps31
  go_upto_region 3 with (fail)
  rw [HW0.out]
  have c0 := HC0.out
  clear HW0
  go_wp2_with fail
  refine HM.out.mono ?_
  rintro e w1 ⟨rfl, h1⟩
  rcases h1 with h2 | h2
  · have hff := Lib.hid (ff_no h2.2)
    have k0 : w1.cell? ⟨w.heap.size + 3, 0, none⟩ = some (.int .i64 0) := by rw [h2.1.fnd.cell]; rfl
    have k1 : w1.cell? ⟨w.heap.size + 3, 1, none⟩ = some (.int .i64 0) := by rw [h2.1.fnd.cell]; rfl
    have k2 : w1.cell? ⟨w.heap.size + 4, 0, none⟩ = some (.bool false) := by rw [h2.1.ok.cell]; rfl
    have k3 : w1.cell? ⟨w.heap.size + 2, 0, none⟩ = some (.int .i64 0) := by rw [h2.1.res.cell]; rfl
    have k4 : w1.cell? ⟨w.heap.size + 2, 1, none⟩ = some (.int .i64 0) := by rw [h2.1.res.cell]; rfl
    have z0 := h2.1.res.frozen 0
    have z1 := h2.1.res.frozen 1
    have HR := Lib.hid h2.1.res
    have HB := Lib.hid h2.1.bel
    clear h2 c0 HM
    go_wp2
    go_region
    go_wp2
    try simp only [Exit.inBlock, Exit.then]
    refine bodyPost_ret (results_cell2 rfl _ _ (w.heap.size + 2) _ _ rfl ((HR.out.set 0 _).set 1 _) fault_agg fault_size) rfl ?_
    refine ⟨by rw [hff.out.1, hff.out.2.1, hff.out.2.2]; rfl, ?_⟩
    exact ((HB.out.setCell (p := ⟨w.heap.size + 2, 0, none⟩) (by show w.heap.size ≤ w.heap.size + 2; omega) _).setCell (p := ⟨w.heap.size + 2, 1, none⟩) (by show w.heap.size ≤ w.heap.size + 2; omega) _).drew
  · obtain ⟨k, hk, hfk, hrow⟩ := h2.got
    have hff := Lib.hid (ff_yes hk hfk)
    obtain ⟨F, hF⟩ : ∃ F, a - ohmsI cs n k = F := ⟨_, rfl⟩
    rw [hF] at hff hrow
    have k0 : w1.cell? ⟨w.heap.size + 3, 0, none⟩ = some (.int .i64 k) := by rw [hrow.cell]; rfl
    have k1 : w1.cell? ⟨w.heap.size + 3, 1, none⟩ = some (.int .i64 F) := by rw [hrow.cell]; rfl
    have k2 : w1.cell? ⟨w.heap.size + 4, 0, none⟩ = some (.bool true) := by rw [h2.ok.cell]; rfl
    have k3 : w1.cell? ⟨w.heap.size + 2, 0, none⟩ = some (.int .i64 0) := by rw [h2.res.cell]; rfl
    have k4 : w1.cell? ⟨w.heap.size + 2, 1, none⟩ = some (.int .i64 0) := by rw [h2.res.cell]; rfl
    have z0 := h2.res.frozen 0
    have z1 := h2.res.frozen 1
    have HR := Lib.hid h2.res
    have HB := Lib.hid h2.bel
    clear h2 c0 HM hrow hF hk hfk
    go_wp2
    go_region
    go_wp2
    try simp only [Exit.inBlock, Exit.then]
    refine bodyPost_ret (results_cell2 rfl _ _ (w.heap.size + 2) _ _ rfl ((HR.out.set 0 _).set 1 _) fault_agg fault_size) rfl ?_
    refine ⟨by rw [hff.out.1, hff.out.2.1, hff.out.2.2]; rfl, ?_⟩
    exact ((HB.out.setCell (p := ⟨w.heap.size + 2, 0, none⟩) (by show w.heap.size ≤ w.heap.size + 2; omega) _).setCell (p := ⟨w.heap.size + 2, 1, none⟩) (by show w.heap.size ≤ w.heap.size + 2; omega) _).drew

/-- The condition of the reference's loop. -/
theorem hit_spec (a b R S : Int) : (inB (a - R) 0 1000 && (S + (a - R) == b)) = (inB a R (R + 1000) && (inB b S (S + 1000) && (a - R == b - S))) := by
  rw [Bool.eq_iff_iff]
  simp only [Bool.and_eq_true, inB_true, beq_iff_eq]
  omega
/-- What stands in the reference's loop. -/
structure FsI (w W : World) : Prop where
  res : Row W w.heap.size 41 #[.int .i64 0, .int .i64 0]
  bel : Below w.heap.size w W
theorem FsI.old {w W W' : World} (h : FsI w W) (hb : Below W.heap.size W W') : FsI w W' := ⟨h.res.old hb, h.bel.trans (hb.mono h.bel.size)⟩

set_option maxHeartbeats 1000000 in
theorem specFaultFind_b (v : Value) (a b : Int) (cs : List Int) (n hi : Nat) (w : World) (hv : SlF 3 w hi v cs n) :
    Calls Try.prog 30 #[v, .int .i64 a, .int .i64 b] w fun e w' => e = .returned (.tuple #[.agg #[.int .i64 (ffM cs n a b), .int .i64 (ffO cs n a b)], .bool (ffB cs n a b)]) ∧ Below w.heap.size w w' := by
  have HI0 : Hid (FsI w (w.alloc (.cells #[.int .i64 0, .int .i64 0] 41))) := Lib.hid ⟨Row.new w _ _, (Below.refl _ w).alloc (Nat.le_refl _) _⟩
  have HV := Lib.hid hv
  have hbd := milesI_bd (cs := cs) (n := n)
  obtain ⟨M, hM⟩ : ∃ M, milesI cs n = M := ⟨_, rfl⟩
  have hN : (nMl cs n : Int) = M + 1 := by rw [← hM]; unfold nMl; omega
  rw [hM] at hbd
  have HM := Lib.hid hM
  clear hM hv
  obtain ⟨N, hNe⟩ : ∃ N, nMl cs n = N := ⟨_, rfl⟩
  rw [hNe] at hN
  have HN := Lib.hid hNe
  clear hNe
  go_enter Try.func30, Try.ntmps30
  go_wp2_with fail
  refine (specCableMiles_b _ cs n hi _ (HV.out.old HI0.out.bel)).mono ?_
  rintro e w1 ⟨rfl, b1⟩
  rw [HM.out]
  have HI1 := Lib.hid (HI0.out.old b1)
  clear b1 HI0
  go_wp2
  go_loopw [9] (fun i wr => ∃ k : Nat, k ≤ N ∧ i = .int .i64 k ∧ Hid (FsI w wr) ∧ Hid (fdTo cs n a b k < 0)) (fun i _ => N - (intOf i).toNat)
  case atStart => exact ⟨0, Nat.zero_le _, rfl, HI1, Lib.hid (by simp [fdTo])⟩
  case round =>
    clear HI1
    obtain ⟨k, hk, rfl, hI, hno⟩ := hrel
    by_cases hlt : k < N
    · have hkm : (k : Int) ≤ M := by omega
      have HNX := Lib.hid (fdTo_next hno.out)
      obtain ⟨o1, o2⟩ := ohmsI_bd (cs := cs) (n := n) (m := k)
      obtain ⟨o3, o4⟩ := allI_bd (cs := cs) (n := n)
      go_wp2_with fail
      refine (l3Sides_b _ (k : Int) cs n hi _ (HV.out.old hI.out.bel)).mono ?_
      rintro e w2 ⟨rfl, b2⟩
      have HI2 := Lib.hid (hI.out.old b2)
      clear b2 hI
      have HH : Hid (hitB cs n a b k = (inB a (ohmsI cs n k) (ohmsI cs n k + 1000) && (inB b (allI cs n - ohmsI cs n k) (allI cs n - ohmsI cs n k + 1000) && (a - ohmsI cs n k == b - (allI cs n - ohmsI cs n k))))) := Lib.hid (hit_spec _ _ _ _)
      have HY : Hid (hitB cs n a b k = true → ffM cs n a b = k ∧ ffO cs n a b = a - ohmsI cs n k ∧ ffB cs n a b = true) := Lib.hid fun h => ff_yes (by rw [HN.out]; exact hlt) (by rw [HNX.out, if_pos h])
      revert o1 o2 HH HY
      generalize ohmsI cs n k = R
      intro o1 o2 HH HY
      revert HH o3 o4
      obtain ⟨S, hS⟩ : ∃ S, allI cs n - R = S := ⟨_, rfl⟩
      rw [hS]
      intro o3 o4 HH
      have o5 : -8001 ≤ S := by omega
      have o6 : S ≤ 8001 := by omega
      clear hS o3 o4
      have k0 : w2.cell? ⟨w.heap.size, 0, none⟩ = some (.int .i64 0) := by rw [HI2.out.res.cell]; rfl
      have k1 : w2.cell? ⟨w.heap.size, 1, none⟩ = some (.int .i64 0) := by rw [HI2.out.res.cell]; rfl
      have z0 := HI2.out.res.frozen 0
      have z1 := HI2.out.res.frozen 1
      cases h1 : inB a R (R + 1000) with
      | false =>
        rw [h1] at HH
        go_wp2_with fail
        refine (l6In_is _ _ _ _ h1).mono ?_
        rintro e _ ⟨rfl, rfl⟩
        go_wp2
        go_roundw
        case rel => exact ⟨k + 1, by omega, by go_num, HI2, Lib.hid (by rw [HNX.out, HH.out]; simp)⟩
        case measure => simp [intOf]; omega
      | true =>
        obtain ⟨r1, r2⟩ := inB_true.1 h1
        cases h2 : inB b S (S + 1000) with
        | false =>
          rw [h1, h2] at HH
          go_wp2_with fail
          refine (l6In_is _ _ _ _ h1).mono ?_
          rintro e _ ⟨rfl, rfl⟩
          go_wp2_with fail
          refine (l6In_is _ _ _ _ h2).mono ?_
          rintro e _ ⟨rfl, rfl⟩
          go_wp2
          go_roundw
          case rel => exact ⟨k + 1, by omega, by go_num, HI2, Lib.hid (by rw [HNX.out, HH.out]; simp)⟩
          case measure => simp [intOf]; omega
        | true =>
          obtain ⟨r3, r4⟩ := inB_true.1 h2
          cases h3 : (a - R == b - S) with
          | false =>
            rw [h1, h2, h3] at HH
            go_wp2_with fail
            refine (l6In_is _ _ _ _ h1).mono ?_
            rintro e _ ⟨rfl, rfl⟩
            go_wp2_with fail
            refine (l6In_is _ _ _ _ h2).mono ?_
            rintro e _ ⟨rfl, rfl⟩
            go_wp2
            go_roundw
            case rel => exact ⟨k + 1, by omega, by go_num, HI2, Lib.hid (by rw [HNX.out, HH.out]; simp)⟩
            case measure => simp [intOf]; omega
          | true =>
            rw [h1, h2, h3] at HH
            have HZ := Lib.hid (HY.out HH.out)
            go_wp2_with fail
            refine (l6In_is _ _ _ _ h1).mono ?_
            rintro e _ ⟨rfl, rfl⟩
            go_wp2_with fail
            refine (l6In_is _ _ _ _ h2).mono ?_
            rintro e _ ⟨rfl, rfl⟩
            go_wp2
            try simp only [Exit.inBlock, Exit.then]
            refine bodyPost_ret (results_cell2 rfl _ _ w.heap.size _ _ rfl ((HI2.out.res.set 0 _).set 1 _) fault_agg fault_size) rfl ?_
            refine ⟨by rw [HZ.out.1, HZ.out.2.1, HZ.out.2.2]; rfl, ?_⟩
            exact (HI2.out.bel.setCell (p := ⟨w.heap.size, 0, none⟩) (Nat.le_refl _) _).setCell (p := ⟨w.heap.size, 1, none⟩) (Nat.le_refl _) _
    · obtain rfl : N = k := by omega
      have HF := Lib.hid (ff_no (by rw [HN.out]; exact hno.out))
      have k0 : wr.cell? ⟨w.heap.size, 0, none⟩ = some (.int .i64 0) := by rw [hI.out.res.cell]; rfl
      have k1 : wr.cell? ⟨w.heap.size, 1, none⟩ = some (.int .i64 0) := by rw [hI.out.res.cell]; rfl
      have z0 := hI.out.res.frozen 0
      have z1 := hI.out.res.frozen 1
      have hkm : ¬ (N : Int) ≤ M := by omega
      go_wp2
      try simp only [Exit.inBlock, Exit.then]
      refine bodyPost_ret (results_cell2 rfl _ _ w.heap.size _ _ rfl ((hI.out.res.set 0 _).set 1 _) fault_agg fault_size) rfl ?_
      refine ⟨by rw [HF.out.1, HF.out.2.1, HF.out.2.2]; rfl, ?_⟩
      exact (hI.out.bel.setCell (p := ⟨w.heap.size, 0, none⟩) (Nat.le_refl _) _).setCell (p := ⟨w.heap.size, 1, none⟩) (Nat.le_refl _) _

end Go.Proofs.Ytoanefccnbnkmaa
