/- FnBreak: where a cable is broken. -/
import Derived.Test.YtoanefccnbnkmaaLawD
import Derived.Test.YtoanefccnbnkmaaDrB
import Derived.Test.YtoanefccnbnkmaaRange
namespace Go.Proofs.Ytoanefccnbnkmaa.fnBreak
open Go.ChangeShapes Go.WideShapes Go.ChangeAt Go.RowKit
set_option linter.unusedVariables false

set_option maxRecDepth 100000 in
set_option maxHeartbeats 1000000 in
theorem walk (a0 : Option Addr) (len0 cap0 : Nat) (z0 : Unit) (w : World) (h0 : By w w.heap.size (.slice a0 len0 cap0) len0) :
    Calls Try.prog 6 #[.slice a0 len0 cap0] w fun e w' => e = .returned (.bool true) ∧ Below w.heap.size w w' := by
  by_cases hn : len0 ≤ 1048576
  · have hlt : decide ((1048576 : Int) < (len0 : Int)) = false := by simp; omega
    go_enter Try.func6, Try.ntmps6
    go_wp2_with fail
    refine (drawBreakOpen_any _ len0 w.heap.size w h0 (Nat.le_refl _)).mono ?_
    rintro e w1 ⟨r, m, f, rfl, hd⟩
    obtain ⟨cs, k, b1, s1, hm, hf⟩ := hd.out
    have B1 := Lib.hid b1
    have S1 := Lib.hid s1
    clear hd b1 s1
    obtain ⟨A, hA⟩ : ∃ A, boI cs k m f = A := ⟨_, rfl⟩
    have HA := Lib.hid hA
    go_wp2_with fail
    refine (implBreakOpen_b _ m f cs k _ _ S1.out).mono ?_
    rintro e w2 ⟨rfl, b2⟩
    rw [HA.out]
    have B2 := Lib.hid (nextW B1.out b2)
    have S2 := Lib.hid (S1.out.old b2)
    clear b2 B1 S1
    go_wp2_with fail
    refine (specBreakOpen_b _ m f cs k _ _ S2.out).mono ?_
    rintro e w3 ⟨rfl, b3⟩
    rw [HA.out]
    have B3 := Lib.hid (nextW B2.out b3)
    have S3 := Lib.hid (S2.out.old b3)
    clear b3 B2 S2
    have hne : (A != A) = false := by simp
    cases hv : fvB cs k m f with
    | false =>
      obtain rfl : A = -1 := by rw [← hA]; unfold boI; rw [hv]; rfl
      clear hA
      go_wp2
      go_ret
      exact ⟨rfl, B3.out⟩
    | true =>
      obtain ⟨hc, hm2, hf2⟩ := fvB_cab hv
      have e1 : opA cs k m f = A := by rw [← hA]; unfold boI; rw [hv]; rfl
      have h1 := break_in hv
      have h2 := break_at hv
      have hs := sides_of hv
      have hA2 : A = ohmsI cs k m + f := by rw [← e1]; exact (op_fv hv).1
      rw [e1] at h1 h2
      have hA0 : 0 ≤ A := by omega
      have hA9 : A ≤ 100000 := by omega
      have hAf : f ≤ A := by omega
      have hd0 : decide (A < 0) = false := decide_eq_false (by omega)
      have P1 := Lib.hid (And.intro (And.intro hA0 hA9) (And.intro hc (And.intro (inB_true.2 hf2 : inB f 0 1000 = true) h1.1)))
      have P2 : Hid ((0 ≤ A - f ∧ A - f ≤ 100000) ∧ 0 ≤ (brTo cs k (A - f) 0 (nMl cs k)).1) := Lib.hid ⟨⟨by omega, by omega⟩, by rw [h2.1]; omega⟩
      have H2 := Lib.hid h2
      obtain ⟨L, hL⟩ : ∃ L, (brTo cs k A f (nMl cs k)).1 = L := ⟨_, rfl⟩
      obtain ⟨U, hU⟩ : ∃ U, (brTo cs k A f (nMl cs k)).2 = U := ⟨_, rfl⟩
      rw [hL, hU] at h1
      have HL := Lib.hid (And.intro hL hU)
      have g1 : decide (L ≤ m) = true := decide_eq_true h1.2.1
      have g2 : decide (m ≤ U) = true := decide_eq_true h1.2.2
      have g3 : decide (f ≤ A) = true := decide_eq_true hAf
      obtain ⟨h1a, h1b, h1c⟩ := h1
      clear hA hv hc e1 h2 hs hL hU hA2
      go_wp2_with fail
      refine (implBreakRange_b _ A f cs k _ _ S3.out P1.out.1 P1.out.2.1 P1.out.2.2.1 P1.out.2.2.2).mono ?_
      rintro e w4 ⟨rfl, b4⟩
      rw [HL.out.1, HL.out.2]
      have B4 := Lib.hid (nextW B3.out b4)
      have S4 := Lib.hid (S3.out.old b4)
      clear b4 B3 S3
      go_wp2_with fail
      refine (implBreakRange_b _ (A - f) 0 cs k _ _ S4.out P2.out.1 P1.out.2.1 (by decide) P2.out.2).mono ?_
      rintro e w5 ⟨rfl, b5⟩
      rw [H2.out.1, H2.out.2]
      have B5 := Lib.hid (nextW B4.out b5)
      clear b5 B4 S4
      go_wp2
      go_ret
      exact ⟨rfl, B5.out⟩
  · have hlt : decide ((1048576 : Int) < (len0 : Int)) = true := by simp; omega
    go_enter Try.func6, Try.ntmps6
    go_wp2
    go_ret
    exact ⟨rfl, Below.refl _ _⟩

set_option maxRecDepth 100000 in
theorem lifted (os : Os) (started : os.Started) (H : Type) (enc : TypeId × Value → H) :
    ReturnsInHanded {} Try.checked os 6 .any (Rows.fnBreakSpec.pre6 enc Try.prog Try.f6 Rows.fnBreakRow.domain false) (Rows.fnBreakSpec.post enc Try.prog Try.f6 false true false false) := by
  refine returnsInHanded_of_change (C := Try.checked) own started (by kernel_rfl) Try.func6
    (ChangeSpec.witness6 (enc := enc) (C := Try.checked) false ⟨#[], #[.slice none 0 0], []⟩ 8 (by kernel_rfl) (by kernel_rfl) (by kernel_rfl) (by kernel_rfl)) ?_
  intro W base args ds gs before hval0 hW hcnd _
  have hval : ∀ (j : Nat) t v, Try.f6.params[j]? = some t → args[j]? = some v → Value.okWide Try.prog W .any base t v := hval0
  have hW' := hW
  obtain ⟨p, q, hA0, hV, rfl, hfz, hnd⟩ := hW
  have hA : DataW.TrodAll enc Try.prog W 0 (fun _ => true) true Try.f6.params.toList args.toList ds p := hA0
  rw [Try.params6] at hA hval
  obtain ⟨v0, vs0, d0, ds0, p0, q0, hargs, rfl, rfl, h0, r0⟩ := trodAll_cons hA
  obtain ⟨rfl, rfl, rfl⟩ := trodAll_nil r0
  obtain rfl : args = #[v0] := by cases args; simp_all
  obtain ⟨rfl, rfl⟩ := trodVars_none hV
  obtain ⟨a0, len0, cap0, rfl⟩ := okWide_slice Try.underlying48 (hval 0 48 v0 rfl rfl)
  have k0 := h0
  have lt0 : ∀ x ∈ p0, x.block < W.heap.size := by obtain ⟨m, hm⟩ := k0; exact DataW.trod_lt m _ _ _ hm
  obtain ⟨z0, w0⟩ := by0_of h0
  clear hA0 hval0
  refine (walk a0 len0 cap0 z0 W w0).mono fun e W' ⟨he, bel⟩ => ?_
  subst he
  exact ⟨_, rfl, _, _, _, [], _, [], hW', trodAll_mk1 (shut_bool Try.underlying4 _), (trodAll_cons_mk (Below.trod laidOut (by kernel_rfl) (of_decide_eq_true (by kernel_rfl)) k0 bel lt0) trodAll_mk0), rfl, bel.frame _, fun h => by cases h⟩

theorem over : Rows.fnBreakRow.holds Try.pinned (OpenSpec.ofChange Rows.fnBreakSpec) :=
  OpenClaim.holds_of_wide 6 Try.f6 rfl rfl rfl rfl rfl rfl rfl ⟨rfl, rfl, rfl, rfl, rfl⟩ rfl rfl rfl rfl rfl (by kernel_rfl) Try.func6 (facts_of signs (by kernel_rfl))
    (of_decide_eq_true (by kernel_rfl)) (by unfold Func.isWrapper; first | (rw [if_pos (by decide +kernel)]; kernel_rfl) | (rw [if_neg (by decide +kernel)]; exact ⟨rfl, rfl⟩))
    (fun os started H enc _ => lifted os started H enc)

theorem proved : Rows.FnBreakSaid := over
#print axioms proved

end Go.Proofs.Ytoanefccnbnkmaa.fnBreak
