/- FnFaultLess: of two faults one may lie nearer at both ends. -/
import Derived.Test.YtoanefccnbnkmaaLawD
import Derived.Test.YtoanefccnbnkmaaDrL
import Derived.Test.YtoanefccnbnkmaaCb
import Derived.Test.YtoanefccnbnkmaaFaultLaw
namespace Go.Proofs.Ytoanefccnbnkmaa.fnFaultLess
open Go.ChangeShapes Go.WideShapes Go.ChangeAt Go.RowKit
set_option linter.unusedVariables false

/-- Two boxes of two numbers. -/
theorem boxes2 (w : World) (a b c d : Int) (s t : TypeId) :
    Below w.heap.size w ((w.alloc (.cells #[.int .i64 a, .int .i64 b] s)).alloc (.cells #[.int .i64 c, .int .i64 d] t)) ∧
    Row ((w.alloc (.cells #[.int .i64 a, .int .i64 b] s)).alloc (.cells #[.int .i64 c, .int .i64 d] t)) w.heap.size s #[.int .i64 a, .int .i64 b] ∧
    Row ((w.alloc (.cells #[.int .i64 a, .int .i64 b] s)).alloc (.cells #[.int .i64 c, .int .i64 d] t)) (w.heap.size + 1) t #[.int .i64 c, .int .i64 d] := by
  have r0 := Row.new w #[.int .i64 a, .int .i64 b] s
  have n0 := (Below.refl (w.alloc (.cells #[.int .i64 a, .int .i64 b] s)).heap.size _).alloc (Nat.le_refl _) (.cells #[.int .i64 c, .int .i64 d] t)
  have r1 := Row.new (w.alloc (.cells #[.int .i64 a, .int .i64 b] s)) #[.int .i64 c, .int .i64 d] t
  rw [World.size_alloc] at r1
  exact ⟨nextW ((Below.refl w.heap.size w).alloc (Nat.le_refl _) _) n0, r0.old n0, r1⟩
theorem implFaultLess_is {p : Bool} (v : Value) (m f m' f' : Int) (cs : List Int) (n hi : Nat) (w : World) (hv : SlF 3 w hi v cs n) (h : lessB cs n m f m' f' = p) :
    Calls Try.prog 29 #[v, .agg #[.int .i64 m, .int .i64 f], .agg #[.int .i64 m', .int .i64 f']] w fun e w' => e = .returned (.bool p) ∧ Below w.heap.size w w' := h ▸ implFaultLess_b v m f m' f' cs n hi w hv
theorem specFaultLess_is {p : Bool} (v : Value) (m f m' f' : Int) (cs : List Int) (n hi : Nat) (w : World) (hv : SlF 3 w hi v cs n) (h : lessB cs n m f m' f' = p) :
    Calls Try.prog 27 #[v, .agg #[.int .i64 m, .int .i64 f], .agg #[.int .i64 m', .int .i64 f']] w fun e w' => e = .returned (.bool p) ∧ Below w.heap.size w w' := h ▸ specFaultLess_b v m f m' f' cs n hi w hv
theorem less_fv {cs : List Int} {n : Nat} {m f m' f' : Int} (h : lessB cs n m f m' f' = true) : fvB cs n m f = true ∧ fvB cs n m' f' = true ∧ cabB cs n = true := by
  have h2 := h
  unfold lessB at h2
  simp only [Bool.and_eq_true] at h2
  exact ⟨h2.1.1.1, h2.1.1.2, (fvB_cab h2.1.1.1).1⟩

set_option maxRecDepth 100000 in
set_option maxHeartbeats 4000000 in
theorem walk (a0 : Option Addr) (len0 cap0 : Nat) (z0 : Unit) (w : World) (h0 : By w w.heap.size (.slice a0 len0 cap0) len0) :
    Calls Try.prog 11 #[.slice a0 len0 cap0] w fun e w' => e = .returned (.bool true) ∧ Below w.heap.size w w' := by
  by_cases hn : len0 ≤ 1048576
  · have hlt : decide ((1048576 : Int) < (len0 : Int)) = false := by simp; omega
    go_enter Try.func11, Try.ntmps11
    go_wp2_with fail
    refine (drawFaultLess_any _ len0 w.heap.size w h0 (Nat.le_refl _)).mono ?_
    rintro e w1 ⟨r, m, f, m', f', rfl, hd⟩
    obtain ⟨cs, k, b1, s1⟩ := hd.out
    obtain ⟨bb, r0, r1⟩ := boxes2 w1 m f m' f' 41 41
    have B1 := Lib.hid (nextW b1 bb)
    have S1 := Lib.hid (s1.old bb)
    have x0 : _ = some (Value.int .i64 m) := r0.cell 0
    have x1 : _ = some (Value.int .i64 f) := r0.cell 1
    have x2 : _ = some (Value.int .i64 m') := r1.cell 0
    have x3 : _ = some (Value.int .i64 f') := r1.cell 1
    clear hd b1 s1 bb r0 r1
    obtain ⟨F, hF⟩ : ∃ F, lessB cs k m f m' f' = F := ⟨_, rfl⟩
    have HF := Lib.hid hF
    clear hF
    go_wp2_with fail
    refine (implFaultLess_is _ m f m' f' cs k _ _ S1.out HF.out).mono ?_
    rintro e w2 ⟨rfl, b⟩
    replace B1 := Lib.hid (nextW B1.out b)
    replace S1 := Lib.hid (S1.out.old b)
    replace x0 := cellB x0 b
    replace x1 := cellB x1 b
    replace x2 := cellB x2 b
    replace x3 := cellB x3 b
    clear b
    go_wp2_with fail
    refine (specFaultLess_is _ m f m' f' cs k _ _ S1.out HF.out).mono ?_
    rintro e w3 ⟨rfl, b⟩
    replace B1 := Lib.hid (nextW B1.out b)
    replace S1 := Lib.hid (S1.out.old b)
    replace x0 := cellB x0 b
    replace x1 := cellB x1 b
    replace x2 := cellB x2 b
    replace x3 := cellB x3 b
    clear b
    cases F with
    | false =>
      go_wp2
      go_ret
      exact ⟨rfl, B1.out⟩
    | true =>
      obtain ⟨g1, g2, g3⟩ := less_fv HF.out
      obtain ⟨l1, l2, l3⟩ := less_of HF.out
      obtain ⟨M, hM⟩ : ∃ M, mlTo cs k - m = M := ⟨_, rfl⟩
      obtain ⟨M', hM'⟩ : ∃ M', mlTo cs k - m' = M' := ⟨_, rfl⟩
      rw [hM, hM'] at l3
      have HM := Lib.hid hM
      have HM' := Lib.hid hM'
      have G1 := Lib.hid g1
      have G2 := Lib.hid g2
      have G3 := Lib.hid g3
      have L2 := Lib.hid l2
      have L3 := Lib.hid l3
      have d1 : decide (f < f') = true := decide_eq_true l1
      clear g1 g2 g3 l2 l3 hM hM' HF
      go_wp2_with fail
      refine (implCableBack_b _ cs k _ _ S1.out G3.out).mono ?_
      rintro e w5 ⟨v5, rfl, b, s5⟩
      replace B1 := Lib.hid (nextW B1.out b.out)
      replace S1 := Lib.hid (S1.out.old b.out)
      replace x0 := cellB x0 b.out
      replace x1 := cellB x1 b.out
      replace x2 := cellB x2 b.out
      replace x3 := cellB x3 b.out
      clear b
      go_wp2_with fail
      refine (implFaultBack_b _ m f cs k _ _ S1.out G1.out).mono ?_
      rintro e w6 ⟨rfl, b⟩
      rw [HM.out]
      obtain ⟨bb, y0, y1⟩ := box2 w6 M f 41
      replace B1 := Lib.hid (nextW (nextW B1.out b) bb)
      replace S1 := Lib.hid ((S1.out.old b).old bb)
      replace s5 := Lib.hid ((s5.out.old b).old bb)
      replace x0 := cellB (cellB x0 b) bb
      replace x1 := cellB (cellB x1 b) bb
      replace x2 := cellB (cellB x2 b) bb
      replace x3 := cellB (cellB x3 b) bb
      clear b bb
      go_wp2_with fail
      refine (implFaultBack_b _ m' f' cs k _ _ S1.out G2.out).mono ?_
      rintro e w7 ⟨rfl, b⟩
      rw [HM'.out]
      obtain ⟨bb, u0, u1⟩ := box2 w7 M' f' 41
      replace B1 := Lib.hid (nextW (nextW B1.out b) bb)
      replace S1 := Lib.hid ((S1.out.old b).old bb)
      replace s5 := Lib.hid ((s5.out.old b).old bb)
      replace x0 := cellB (cellB x0 b) bb
      replace x1 := cellB (cellB x1 b) bb
      replace x2 := cellB (cellB x2 b) bb
      replace x3 := cellB (cellB x3 b) bb
      replace y0 := cellB (cellB y0 b) bb
      replace y1 := cellB (cellB y1 b) bb
      clear b bb
      go_wp2_with fail
      refine (implFaultLess_is _ m' f' m f cs k _ _ S1.out L2.out).mono ?_
      rintro e w8 ⟨rfl, b⟩
      replace B1 := Lib.hid (nextW B1.out b)
      replace s5 := Lib.hid (s5.out.old b)
      replace y0 := cellB y0 b
      replace y1 := cellB y1 b
      replace u0 := cellB u0 b
      replace u1 := cellB u1 b
      clear b x0 x1 x2 x3
      go_wp2_with fail
      refine (implFaultLess_is _ M f M' f' (rvC cs k) k _ _ s5.out L3.out).mono ?_
      rintro e w9 ⟨rfl, b⟩
      go_wp2
      go_ret
      exact ⟨rfl, nextW B1.out b⟩
  · have hlt : decide ((1048576 : Int) < (len0 : Int)) = true := by simp; omega
    go_enter Try.func11, Try.ntmps11
    go_wp2
    go_ret
    exact ⟨rfl, Below.refl _ _⟩

set_option maxRecDepth 100000 in
theorem lifted (os : Os) (started : os.Started) (H : Type) (enc : TypeId × Value → H) :
    ReturnsInHanded {} Try.checked os 11 .any (Rows.fnFaultLessSpec.pre6 enc Try.prog Try.f11 Rows.fnFaultLessRow.domain false) (Rows.fnFaultLessSpec.post enc Try.prog Try.f11 false true false false) := by
  refine returnsInHanded_of_change (C := Try.checked) own started (by kernel_rfl) Try.func11
    (ChangeSpec.witness6 (enc := enc) (C := Try.checked) false ⟨#[], #[.slice none 0 0], []⟩ 8 (by kernel_rfl) (by kernel_rfl) (by kernel_rfl) (by kernel_rfl)) ?_
  intro W base args ds gs before hval0 hW hcnd _
  have hval : ∀ (j : Nat) t v, Try.f11.params[j]? = some t → args[j]? = some v → Value.okWide Try.prog W .any base t v := hval0
  have hW' := hW
  obtain ⟨p, q, hA0, hV, rfl, hfz, hnd⟩ := hW
  have hA : DataW.TrodAll enc Try.prog W 0 (fun _ => true) true Try.f11.params.toList args.toList ds p := hA0
  rw [Try.params11] at hA hval
  obtain ⟨v0, vs0, d0, ds0, p0, q0, hargs, rfl, rfl, h0, r0⟩ := trodAll_cons hA
  obtain ⟨rfl, rfl, rfl⟩ := trodAll_nil r0
  obtain rfl : args = #[v0] := by cases args; simp_all
  obtain ⟨rfl, rfl⟩ := trodVars_none hV
  obtain ⟨a0, len0, cap0, rfl⟩ := okWide_slice Try.underlying48 (hval 0 48 v0 rfl rfl)
  have k0 := h0
  have lt0 : ∀ x ∈ p0, x.block < W.heap.size := by obtain ⟨m, hm⟩ := k0; exact DataW.trod_lt m _ _ _ hm
  obtain ⟨z0, w0⟩ := by0_of h0
  clear hA0 hval0
  refine (walk a0 len0 cap0 z0 W w0).mono fun e W' ⟨he, bel⟩ => ?_
  subst he
  exact ⟨_, rfl, _, _, _, [], _, [], hW', trodAll_mk1 (shut_bool Try.underlying4 _), (trodAll_cons_mk (Below.trod laidOut (by kernel_rfl) (of_decide_eq_true (by kernel_rfl)) k0 bel lt0) trodAll_mk0), rfl, bel.frame _, fun h => by cases h⟩

theorem over : Rows.fnFaultLessRow.holds Try.pinned (OpenSpec.ofChange Rows.fnFaultLessSpec) :=
  OpenClaim.holds_of_wide 11 Try.f11 rfl rfl rfl rfl rfl rfl rfl ⟨rfl, rfl, rfl, rfl, rfl⟩ rfl rfl rfl rfl rfl (by kernel_rfl) Try.func11 (facts_of signs (by kernel_rfl))
    (of_decide_eq_true (by kernel_rfl)) (by unfold Func.isWrapper; first | (rw [if_pos (by decide +kernel)]; kernel_rfl) | (rw [if_neg (by decide +kernel)]; exact ⟨rfl, rfl⟩))
    (fun os started H enc _ => lifted os started H enc)

theorem proved : Rows.FnFaultLessSaid := over
#print axioms proved

end Go.Proofs.Ytoanefccnbnkmaa.fnFaultLess
