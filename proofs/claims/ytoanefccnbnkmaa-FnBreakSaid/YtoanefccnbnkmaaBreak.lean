/- Contracts: BreakOpen of both, BreakRange of the program. -/
import Derived.Test.YtoanefccnbnkmaaFind
import Derived.Test.YtoanefccnbnkmaaFaultLaw
import Derived.BigQuiet
namespace Go.Proofs.Ytoanefccnbnkmaa
open Go.RowKit

/-- What BreakOpen answers. -/
def boI (cs : List Int) (n : Nat) (m f : Int) : Int := if fvB cs n m f then opA cs n m f else -1
theorem implBreakOpen_b (v : Value) (m f : Int) (cs : List Int) (n hi : Nat) (w : World) (hv : SlF 3 w hi v cs n) :
    Calls Try.prog 34 #[v, .int .i64 m, .int .i64 f] w fun e w' => e = .returned (.int .i64 (boI cs n m f)) ∧ Below w.heap.size w w' := by
  unfold boI
  obtain ⟨A, hA⟩ : ∃ A, opA cs n m f = A := ⟨_, rfl⟩
  obtain ⟨B, hB⟩ : ∃ B, opB cs n m f = B := ⟨_, rfl⟩
  cases hp : fvB cs n m f with
  | false =>
    have H := Lib.hid (And.intro hA (And.intro hB hp))
    clear hA hB hp
    go_enter Try.func34, Try.ntmps34
    go_wp2_with fail
    refine (implFaultOpen_is _ m f cs n hi _ hv H.out).mono ?_
    rintro e w1 ⟨rfl, b1⟩
    go_wp2
    go_ret
    exact ⟨rfl, b1⟩
  | true =>
    have H := Lib.hid (And.intro hA (And.intro hB hp))
    rw [hA]
    clear hA hB hp
    go_enter Try.func34, Try.ntmps34
    go_wp2_with fail
    refine (implFaultOpen_is _ m f cs n hi _ hv H.out).mono ?_
    rintro e w1 ⟨rfl, b1⟩
    go_wp2
    go_ret
    exact ⟨rfl, b1⟩

theorem ohms_neg {cs : List Int} {n : Nat} {m : Int} (h : inB m 0 (milesI cs n) = false) : ohmsI cs n m = -1 := by unfold ohmsI; rw [h]; rfl
theorem ohms_nn {cs : List Int} {n : Nat} {m : Int} (h : inB m 0 (milesI cs n) = true) : 0 ≤ ohmsI cs n m := by
  have h0 : fvB cs n m 0 = true := by unfold fvB; rw [h]; rfl
  have := sides_of h0
  omega
theorem specBreakOpen_b (v : Value) (m f : Int) (cs : List Int) (n hi : Nat) (w : World) (hv : SlF 3 w hi v cs n) :
    Calls Try.prog 35 #[v, .int .i64 m, .int .i64 f] w fun e w' => e = .returned (.int .i64 (boI cs n m f)) ∧ Below w.heap.size w w' := by
  obtain ⟨R, hR⟩ : ∃ R, ohmsI cs n m = R := ⟨_, rfl⟩
  have hbd := ohmsI_bd (cs := cs) (n := n) (m := m)
  rw [hR] at hbd
  cases h1 : inB m 0 (milesI cs n) with
  | false =>
    have hr : R < 0 := by rw [← hR, ohms_neg h1]; omega
    have HE : Hid (boI cs n m f = -1) := Lib.hid (by unfold boI fvB; rw [h1]; rfl)
    have HR := Lib.hid hR
    clear hR h1
    go_enter Try.func35, Try.ntmps35
    go_wp2_with fail
    refine (specCableOhms_b _ m cs n hi _ hv).mono ?_
    rintro e w1 ⟨rfl, b1⟩
    rw [HR.out]
    have hd : decide (R < 0) = true := decide_eq_true hr
    go_wp2
    go_ret
    exact ⟨by rw [HE.out]; rfl, b1⟩
  | true =>
    have hr : 0 ≤ R := by rw [← hR]; exact ohms_nn h1
    have hd : decide (R < 0) = false := decide_eq_false (by omega)
    cases h2 : inB f 0 1000 with
    | false =>
      have HE : Hid (boI cs n m f = -1) := Lib.hid (by unfold boI fvB; rw [h1, h2]; rfl)
      have HR := Lib.hid hR
      clear hR h1
      go_enter Try.func35, Try.ntmps35
      go_wp2_with fail
      refine (specCableOhms_b _ m cs n hi _ hv).mono ?_
      rintro e w1 ⟨rfl, b1⟩
      rw [HR.out]
      go_wp2_with fail
      refine (l6In_is _ _ _ _ h2).mono ?_
      rintro e _ ⟨rfl, rfl⟩
      go_wp2
      go_ret
      exact ⟨by rw [HE.out]; rfl, b1⟩
    | true =>
      have hf := inB_true.1 h2
      have HE : Hid (boI cs n m f = R + f) := Lib.hid (by
        have h3 : fvB cs n m f = true := by unfold fvB; rw [h1, h2]; rfl
        unfold boI opA; rw [h3, ← hR]; rfl)
      have HR := Lib.hid hR
      clear hR h1
      go_enter Try.func35, Try.ntmps35
      go_wp2_with fail
      refine (specCableOhms_b _ m cs n hi _ hv).mono ?_
      rintro e w1 ⟨rfl, b1⟩
      rw [HR.out]
      go_wp2_with fail
      refine (l6In_is _ _ _ _ h2).mono ?_
      rintro e _ ⟨rfl, rfl⟩
      go_wp2
      go_ret
      exact ⟨by rw [HE.out]; rfl, b1⟩

/-- What stands while BreakRange walks. -/
structure BrI (w : World) (G : Nat) (cs : List Int) (n : Nat) (x e : Int) (k : Nat) (W : World) : Prop where
  er : Row W w.heap.size 3 #[.int .i64 e]
  lo : Row W G 3 #[.int .i64 (brTo cs n x e k).1]
  hi : Row W (G + 1) 3 #[.int .i64 (brTo cs n x e k).2]
  bel : Below w.heap.size w W
theorem BrI.old {w : World} {G : Nat} {cs : List Int} {n : Nat} {x e : Int} {k : Nat} {W W' : World} (h : BrI w G cs n x e k W) (hb : Below W.heap.size W W') : BrI w G cs n x e k W' :=
  ⟨h.er.old hb, h.lo.old hb, h.hi.old hb, h.bel.trans (hb.mono h.bel.size)⟩
theorem brTo_no {cs : List Int} {n : Nat} {x e : Int} {k : Nat} (h : inB (x - ohmsI cs n k) 0 e = false) : brTo cs n x e (k + 1) = brTo cs n x e k := by
  simp only [brTo, h]; rfl
theorem brTo_yes {cs : List Int} {n : Nat} {x e : Int} {k : Nat} (h : inB (x - ohmsI cs n k) 0 e = true) : brTo cs n x e (k + 1) = (if (brTo cs n x e k).1 < 0 then (k : Int) else (brTo cs n x e k).1, (k : Int)) := by
  simp only [brTo, h]; rfl

set_option maxRecDepth 100000 in
set_option maxHeartbeats 1000000 in
theorem brStep (w : World) (G : Nat) (hG : w.heap.size < G) (cs : List Int) (n : Nat) (x e : Int) (k : Nat) (W : World) (hI : BrI w G cs n x e k W) (hin : inB (x - ohmsI cs n k) 0 1000 = true) :
    Calls Try.prog 74 #[.agg #[.int .i64 (k : Int), .int .i64 (x - ohmsI cs n k)], .pointer (some ⟨w.heap.size, 0, none⟩), .pointer (some ⟨G, 0, none⟩), .pointer (some ⟨G + 1, 0, none⟩)] W
      fun e' W' => (e' = .returned (.bool true) ∧ BrI w G cs n x e (k + 1) W') ∨ (e' = .returned (.bool false) ∧ False) := by
  have H0 := Lib.hid fun h => brTo_no (cs := cs) (n := n) (x := x) (e := e) (k := k) h
  have H1 := Lib.hid fun h => brTo_yes (cs := cs) (n := n) (x := x) (e := e) (k := k) h
  obtain ⟨hf0, hf1⟩ := inB_true.1 hin
  clear hin
  revert H0 H1 hf0 hf1
  generalize x - ohmsI cs n k = F
  intro H0 H1 hf0 hf1
  obtain ⟨b0, x0, x1⟩ := box2 W (k : Int) F 41
  have HI := Lib.hid (hI.old b0)
  have hg1 := hI.lo.lt
  have hg2 := hI.hi.lt
  have hg3 : W.heap.size ≠ G := by omega
  have hg4 : W.heap.size ≠ G + 1 := by omega
  obtain ⟨L, hL⟩ : ∃ L, (brTo cs n x e k).1 = L := ⟨_, rfl⟩
  obtain ⟨U, hU⟩ : ∃ U, (brTo cs n x e k).2 = U := ⟨_, rfl⟩
  have k0 : _ = some (Value.int .i64 e) := HI.out.er.cell 0
  have k1 : _ = some (Value.int .i64 (brTo cs n x e k).1) := HI.out.lo.cell 0
  have k2 : _ = some (Value.int .i64 (brTo cs n x e k).2) := HI.out.hi.cell 0
  rw [hL] at k1
  rw [hU] at k2
  have z1 := HI.out.lo.frozen 0
  have z2 := HI.out.hi.frozen 0
  have HL := Lib.hid hL
  clear hI hL hU b0
  revert HI k0 k1 k2 z1 z2 x0 x1
  obtain ⟨W1, hW1⟩ : ∃ W1, W.alloc (.cells #[.int .i64 (k : Int), .int .i64 F] 41) = W1 := ⟨_, rfl⟩
  rw [hW1]
  intro x0 x1 HI k0 k1 k2 z1 z2
  by_cases hfe : F ≤ e
  · have hin2 : inB F 0 e = true := inB_true.2 ⟨hf0, hfe⟩
    have HN := Lib.hid (H1.out hin2)
    have hd : decide (F ≤ e) = true := decide_eq_true hfe
    have HW1 := Lib.hid hW1
    clear hW1 hin2 H0 H1
    by_cases hl : L < 0
    · have hd2 : decide (L < 0) = true := decide_eq_true hl
      go_enter Try.func74, Try.ntmps74
      go_upto_region 1 with (fail)
      rw [HW1.out]
      go_wp2
      go_ret
      first | refine .inl ⟨rfl, ?_, ?_, ?_, ?_⟩ | refine ⟨rfl, ?_, ?_, ?_, ?_⟩
      · exact (HI.out.er.other (a := ⟨G, 0, none⟩) (by show w.heap.size ≠ G; omega) _).other (a := ⟨G + 1, 0, none⟩) (by show w.heap.size ≠ G + 1; omega) _
      · rw [HN.out, if_pos (by rw [HL.out]; omega)]
        exact (HI.out.lo.set 0 _).other (a := ⟨G + 1, 0, none⟩) (by show G ≠ G + 1; omega) _
      · rw [HN.out]
        exact (HI.out.hi.other (a := ⟨G, 0, none⟩) (by show G + 1 ≠ G; omega) _).set 0 _
      · exact (HI.out.bel.setCell (p := ⟨G, 0, none⟩) (by show w.heap.size ≤ G; omega) _).setCell (p := ⟨G + 1, 0, none⟩) (by show w.heap.size ≤ G + 1; omega) _
    · have hd2 : decide (L < 0) = false := decide_eq_false hl
      go_enter Try.func74, Try.ntmps74
      go_upto_region 1 with (fail)
      rw [HW1.out]
      go_wp2
      go_ret
      first | refine .inl ⟨rfl, ?_, ?_, ?_, ?_⟩ | refine ⟨rfl, ?_, ?_, ?_, ?_⟩
      · exact HI.out.er.other (a := ⟨G + 1, 0, none⟩) (by show w.heap.size ≠ G + 1; omega) _
      · rw [HN.out, if_neg (by rw [HL.out]; omega)]
        exact HI.out.lo.other (a := ⟨G + 1, 0, none⟩) (by show G ≠ G + 1; omega) _
      · rw [HN.out]
        exact HI.out.hi.set 0 _
      · exact HI.out.bel.setCell (p := ⟨G + 1, 0, none⟩) (by show w.heap.size ≤ G + 1; omega) _
  · have hin2 : inB F 0 e = false := by
      cases h : inB F 0 e with
      | false => rfl
      | true => exact absurd (inB_true.1 h).2 hfe
    have HN := Lib.hid (H0.out hin2)
    have hd : decide (F ≤ e) = false := decide_eq_false hfe
    have HW1 := Lib.hid hW1
    clear hW1 hin2 H0 H1
    go_enter Try.func74, Try.ntmps74
    go_upto_region 1 with (fail)
    rw [HW1.out]
    go_wp2
    go_ret
    first | refine .inl ⟨rfl, HI.out.er, ?_, ?_, HI.out.bel⟩ | refine ⟨rfl, HI.out.er, ?_, ?_, HI.out.bel⟩
    · rw [HN.out]; exact HI.out.lo
    · rw [HN.out]; exact HI.out.hi

end Go.Proofs.Ytoanefccnbnkmaa
