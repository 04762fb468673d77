/- Contract: BreakRange of the program; the draw of FnBreak. -/
import Derived.Test.YtoanefccnbnkmaaBreak
import Derived.Test.YtoanefccnbnkmaaEach
import Derived.Test.YtoanefccnbnkmaaCabI
namespace Go.Proofs.Ytoanefccnbnkmaa
open Go.RowKit

set_option maxRecDepth 100000 in
set_option maxHeartbeats 1000000 in
theorem implBreakRange_b (v : Value) (x e : Int) (cs : List Int) (n hi : Nat) (w : World) (hv : SlF 3 w hi v cs n) (hx : 0 ≤ x ∧ x ≤ 100000) (hc : cabB cs n = true) (he : inB e 0 1000 = true) (hb : 0 ≤ (brTo cs n x e (nMl cs n)).1) :
    Calls Try.prog 36 #[v, .int .i64 x, .int .i64 e] w fun e' w' => e' = .returned (.tuple #[.int .i64 (brTo cs n x e (nMl cs n)).1, .int .i64 (brTo cs n x e (nMl cs n)).2, .bool true]) ∧ Below w.heap.size w w' := by
  have he2 := inB_true.1 he
  have B0 := Lib.hid ((Below.refl w.heap.size w).alloc (Nat.le_refl _) (.cells #[.int .i64 e] 3))
  have V0 := Lib.hid (hv.old B0.out)
  have HV := Lib.hid hv
  have R0 := Lib.hid (Row.new w #[.int .i64 e] 3)
  have hneg : decide (x < 0) = false := decide_eq_false (by omega)
  have HBR := Lib.hid hb
  clear hv hb
  go_enter Try.func36, Try.ntmps36
  go_wp2_with fail
  refine (implCableValid_is _ cs n hi _ V0.out hc).mono ?_
  rintro e' w1 ⟨rfl, b1⟩
  have B1 := Lib.hid (nextW B0.out b1)
  have R1 := Lib.hid (R0.out.old b1)
  have hG := R1.out.lt
  have k0 : _ = some (Value.int .i64 e) := R1.out.cell 0
  clear b1 V0 B0 R0
  go_wp2_with fail
  refine (ohmsValid_is _ _ he).mono ?_
  rintro e' _ ⟨rfl, rfl⟩
  clear k0
  go_wp2_with fail
  refine (each_BreakRange _ cs n hi x _ _ _ (BrI w w1.heap.size cs n x e) (fun _ => False) _ ⟨by omega, by omega⟩ ?_ (fun k W h => HV.out.old h.bel) (fun k W W' h hb => h.old hb) ?_ ?_).mono ?_
  · have a1 := (Below.refl w1.heap.size w1).alloc (Nat.le_refl _) (.cells #[.int .i64 (-1)] 3)
    have a2 := a1.alloc (by simp) (.cells #[.int .i64 (-1)] 3)
    have r1 := Row.new w1 #[.int .i64 (-1)] 3
    have r2 := Row.new (w1.alloc (.cells #[.int .i64 (-1)] 3)) #[.int .i64 (-1)] 3
    rw [World.size_alloc] at r2
    exact ⟨R1.out.old a2, r1.old ((Below.refl _ _).alloc (Nat.le_refl _) _), r2, nextW B1.out a2⟩
  · intro k W hk hI hin
    have h0 : inB (x - ohmsI cs n k) 0 e = false := by
      cases h : inB (x - ohmsI cs n k) 0 e with
      | false => rfl
      | true =>
        have := inB_true.1 h
        have : inB (x - ohmsI cs n k) 0 1000 = true := inB_true.2 (by omega)
        rw [hin] at this; cases this
    have hE := brTo_no h0
    exact ⟨hI.er, by rw [hE]; exact hI.lo, by rw [hE]; exact hI.hi, hI.bel⟩
  · intro k W hk hI hin
    exact brStep w w1.heap.size hG cs n x e k W hI hin
  rintro e' w2 ⟨rfl, h2⟩
  rcases h2.out with h3 | h3
  · have B2 := Lib.hid h3.bel
    have k1 : _ = some (Value.int .i64 (brTo cs n x e (nMl cs n)).1) := h3.lo.cell 0
    have k2 : _ = some (Value.int .i64 (brTo cs n x e (nMl cs n)).2) := h3.hi.cell 0
    have hL := HBR.out
    obtain ⟨L, hL1⟩ : ∃ L, (brTo cs n x e (nMl cs n)).1 = L := ⟨_, rfl⟩
    obtain ⟨U, hU1⟩ : ∃ U, (brTo cs n x e (nMl cs n)).2 = U := ⟨_, rfl⟩
    rw [hL1] at k1 hL
    rw [hU1] at k2
    have HL := Lib.hid hL1
    have HU := Lib.hid hU1
    clear h2 h3 hL1 hU1 HBR
    have hd : decide (L < 0) = false := decide_eq_false (by omega)
    go_wp2
    go_quiet (fail)
    go_wp2
    go_ret3
    exact ⟨by rw [HL.out, HU.out]; rfl, below_drewN B2.out _⟩
  · exact h3.elim

end Go.Proofs.Ytoanefccnbnkmaa
