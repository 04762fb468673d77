/- FnAgree: coils agree with each other. -/
import Derived.Test.YtldjnfcdmhcjdaaLawC
import Derived.Test.YtldjnfcdmhcjdaaDrAt
import Derived.Test.YtldjnfcdmhcjdaaOrd2
import Derived.Test.YtldjnfcdmhcjdaaStowI
namespace Go.Proofs.Ytldjnfcdmhcjdaa.fnAgree
open Go.ChangeShapes Go.WideShapes Go.ChangeAt Go.RowKit
set_option linter.unusedVariables false

theorem implAgree_is {r : Bool} (v : Value) (xs : List Int) (a b : Int) (hi : Nat) (w : World) (hv : Sl w hi v xs) (h : agreeB xs a b = r) :
    Calls Try.prog 24 #[v, .int .i64 a, .int .i64 b] w fun e w' => e = .returned (.bool r) ∧ Q w w' := h ▸ implOrdersAgree_any v xs a b hi w hv
theorem specAgree_is {r : Bool} (v : Value) (xs : List Int) (a b : Int) (hi : Nat) (w : World) (hv : Sl w hi v xs) (h : agreeB xs a b = r) :
    Calls Try.prog 23 #[v, .int .i64 a, .int .i64 b] w fun e w' => e = .returned (.bool r) ∧ Q w w' := h ▸ specOrdersAgree_any v xs a b hi w hv
theorem implStow_is {r : Bool} (v0 v1 : Value) (xs ts : List Int) (hi0 hi1 : Nat) (w : World) (hv0 : Sl w hi0 v0 xs) (hv1 : Sl w hi1 v1 ts) (h : stowB xs ts = r) :
    Calls Try.prog 34 #[v0, v1] w fun e w' => e = .returned (.bool r) ∧ Below w.heap.size w w' := h ▸ implStowageValid_any v0 v1 xs ts hi0 hi1 w hv0 hv1

theorem agree_parts {xs : List Int} {a b : Int} (h : agreeB xs a b = true) :
    ∃ i j : Nat, a = i ∧ b = j ∧ i < xs.length ∧ j < xs.length ∧ i ≠ j ∧ (i < j → gi xs j < gi xs i) ∧ (j < i → gi xs i < gi xs j) ∧ agreeB xs b a = true := by
  simp only [agreeB, Bool.and_eq_true, inB_true, bne_iff_ne, ne_eq] at h
  obtain ⟨⟨⟨⟨ho, ha⟩, hb⟩, hne⟩, hg⟩ := h
  obtain ⟨i, rfl⟩ := Int.eq_ofNat_of_zero_le ha.1
  obtain ⟨j, rfl⟩ := Int.eq_ofNat_of_zero_le hb.1
  have hij : i ≠ j := by omega
  have hd := ordB_ne ho (i := i) (j := j) (by omega) (by omega) hij
  simp only [Int.toNat_natCast, agrB, beq_iff_eq, decide_eq_decide] at hg
  refine ⟨i, j, rfl, rfl, by omega, by omega, hij, fun h => hg.1 h, fun h => ?_, ?_⟩
  · have : ¬ gi xs j < gi xs i := fun h2 => by have := hg.2 h2; omega
    omega
  · simp only [agreeB, Bool.and_eq_true, inB_true, bne_iff_ne, ne_eq]
    refine ⟨⟨⟨⟨ho, hb⟩, ha⟩, fun e => hne e.symm⟩, ?_⟩
    simp only [Int.toNat_natCast, agrB, beq_iff_eq, decide_eq_decide]
    constructor
    · intro h
      have : ¬ gi xs j < gi xs i := fun h2 => by have := hg.2 h2; omega
      omega
    · intro h
      have : ¬ i < j := fun h2 => by have := hg.1 h2; omega
      omega

theorem agree_self (xs : List Int) (a : Int) : agreeB xs a a = false := by simp [agreeB]

theorem stow10 : stowB [1, 0] [0, 0] = true := by decide +kernel

set_option maxHeartbeats 1000000 in
theorem walk (a0 : Option Addr) (len0 cap0 : Nat) (z0 : Unit) (w : World) (h0 : By w w.heap.size (.slice a0 len0 cap0) len0) :
    Calls Try.prog 10 #[.slice a0 len0 cap0] w fun e w' => e = .returned (.bool true) ∧ Below w.heap.size w w' := by
  by_cases hn : len0 ≤ 1048576
  · have hlt : decide ((1048576 : Int) < (len0 : Int)) = false := by simp; omega
    go_enter Try.func10, Try.ntmps10
    go_wp2_with fail
    refine (drawOrdersAgree_any _ len0 w.heap.size w h0 (Nat.le_refl _)).mono ?_
    rintro e w1 ⟨r, xs, A, B, rfl, b1, r1, hl, hA, hB⟩
    have r1' := r1.sl
    have R1 := Lib.hid r1.sl
    obtain ⟨ad, n, cap, rfl, hlen, hnn, hcap, hcap2, hcs⟩ := r1'
    have HLEN := Lib.hid hlen
    have B1 := Lib.hid b1
    have hz1 := b1.size
    clear r1 hlen b1
    cases hag : agreeB xs A B with
    | false =>
      clear hcs
      go_wp2_with fail
      refine (implAgree_is _ xs A B _ _ R1.out hag).mono ?_
      rintro e _ ⟨rfl, d1, rfl⟩
      go_wp2_with fail
      refine (specAgree_is _ xs A B _ _ (R1.out.drewN _) hag).mono ?_
      rintro e _ ⟨rfl, d2, rfl⟩
      go_wp2
      go_ret
      exact ⟨rfl, below_drewN B1.out _⟩
    | true =>
      obtain ⟨i, j, rfl, rfl, hi, hj, hij, hg1, hg2, hsw⟩ := agree_parts hag
      rw [HLEN.out] at hi hj
      obtain ⟨b, off, rfl, hb, hcs⟩ := hcs (by omega)
      have ci := hcs i hi
      have cj := hcs j hj
      clear hcs
      go_wp2_with fail
      refine (implAgree_is _ xs i j _ _ R1.out hag).mono ?_
      rintro e _ ⟨rfl, d1, rfl⟩
      go_wp2_with fail
      refine (specAgree_is _ xs i j _ _ (R1.out.drewN _) hag).mono ?_
      rintro e _ ⟨rfl, d2, rfl⟩
      have R2 : Hid (Sl ((w1.drewN d1).drewN d2) w1.heap.size (.slice (some ⟨b, off, none⟩) n cap) xs) := Lib.hid R1.out
      have B2 : Hid (Below w.heap.size w ((w1.drewN d1).drewN d2)) := Lib.hid (below_drewN (below_drewN B1.out _) _)
      have ci2 : ((w1.drewN d1).drewN d2).cell? ⟨b, off + i, none⟩ = some (.int .i64 (gi xs i)) := ci
      have cj2 : ((w1.drewN d1).drewN d2).cell? ⟨b, off + j, none⟩ = some (.int .i64 (gi xs j)) := cj
      have hz2 : w1.heap.size ≤ ((w1.drewN d1).drewN d2).heap.size := Nat.le_refl _
      revert R2 B2 ci2 cj2 hz2
      generalize ((w1.drewN d1).drewN d2) = w2
      intro R2 B2 ci2 cj2 hz2
      clear ci cj
      rcases Nat.lt_or_gt_of_ne hij with hlt2 | hlt2
      · have hg := hg1 hlt2
        have hlt3 : (i : Int) < (j : Int) := by omega
        have hlt4 : decide ((i : Int) < (j : Int)) = true := by simp; omega
        have hlt5 : decide ((j : Int) < (i : Int)) = false := by simp; omega
        clear hg1 hg2
        go_wp2
        have bA : Below w2.heap.size w2 (w2.alloc (.cells #[.int .i64 0, .int .i64 1] 3)) := (Below.refl _ _).alloc (Nat.le_refl _) _
        have R3 : Hid (Sl (w2.alloc (.cells #[.int .i64 0, .int .i64 1] 3)) w1.heap.size (.slice (some ⟨b, off, none⟩) n cap) xs) := Lib.hid (R2.out.old bA)
        have B3 : Hid (Below w.heap.size w (w2.alloc (.cells #[.int .i64 0, .int .i64 1] 3))) := Lib.hid (nextB B2.out bA)
        have ci3 := (bA.cell (p := ⟨b, off + i, none⟩) (World.block_lt_of_cell? w2 _ ci2)).trans ci2
        have cj3 := (bA.cell (p := ⟨b, off + j, none⟩) (World.block_lt_of_cell? w2 _ cj2)).trans cj2
        clear ci2 cj2 R2 B2 bA
        revert R3 B3 ci3 cj3
        generalize w2.alloc (.cells #[.int .i64 0, .int .i64 1] 3) = wA
        intro R3 B3 ci3 cj3
        go_quiet (fail)
        replace R3 : Hid (Sl (wA.drewN nq) w1.heap.size (.slice (some ⟨b, off, none⟩) n cap) xs) := Lib.hid (R3.out.drewN _)
        replace B3 : Hid (Below w.heap.size w (wA.drewN nq)) := Lib.hid (below_drewN B3.out _)
        clear ci3 cj3
        revert R3 B3
        generalize wA.drewN nq = w3
        intro R3 B3
        have bB : Below w3.heap.size w3 (w3.alloc (.cells #[.int .i64 1, .int .i64 0] 3)) := (Below.refl _ _).alloc (Nat.le_refl _) _
        have R4 := Lib.hid (R3.out.old bB)
        have B4 := Lib.hid (nextB B3.out bB)
        have P4 := Lib.hid (slPair w3 1 0)
        clear R3 B3 bB
        go_wp2_with fail
        refine (implAgree_is _ xs j i _ _ R4.out hsw).mono ?_
        rintro e _ ⟨rfl, d3, rfl⟩
        revert R4 B4 P4
        generalize w3.alloc (.cells #[.int .i64 1, .int .i64 0] 3) = w4
        intro R4 B4 P4
        go_wp2_with fail
        refine (implAgree_is _ xs i i _ _ (R4.out.drewN _) (agree_self _ _)).mono ?_
        rintro e _ ⟨rfl, d4, rfl⟩
        go_wp2_with fail
        refine (implStow_is _ _ [1, 0] [0, 0] _ _ _ ((P4.out.drewN _).old ((Below.refl _ _).alloc (Nat.le_refl _) _)) (slPair _ 0 0) stow10).mono ?_
        rintro e w5 ⟨rfl, b5⟩
        go_wp2
        go_ret
        exact ⟨rfl, nextB (nextB (below_drewN B4.out _) ((Below.refl _ _).alloc (Nat.le_refl _) _)) b5⟩
      · have hg := hg2 hlt2
        have hlt3 : (j : Int) < (i : Int) := by omega
        have hlt4 : decide ((j : Int) < (i : Int)) = true := by simp; omega
        have hlt5 : decide ((i : Int) < (j : Int)) = false := by simp; omega
        clear hg1 hg2
        go_wp2
        have bA : Below w2.heap.size w2 (w2.alloc (.cells #[.int .i64 0, .int .i64 1] 3)) := (Below.refl _ _).alloc (Nat.le_refl _) _
        have R3 : Hid (Sl (w2.alloc (.cells #[.int .i64 0, .int .i64 1] 3)) w1.heap.size (.slice (some ⟨b, off, none⟩) n cap) xs) := Lib.hid (R2.out.old bA)
        have B3 : Hid (Below w.heap.size w (w2.alloc (.cells #[.int .i64 0, .int .i64 1] 3))) := Lib.hid (nextB B2.out bA)
        have ci3 := (bA.cell (p := ⟨b, off + i, none⟩) (World.block_lt_of_cell? w2 _ ci2)).trans ci2
        have cj3 := (bA.cell (p := ⟨b, off + j, none⟩) (World.block_lt_of_cell? w2 _ cj2)).trans cj2
        clear ci2 cj2 R2 B2 bA
        revert R3 B3 ci3 cj3
        generalize w2.alloc (.cells #[.int .i64 0, .int .i64 1] 3) = wA
        intro R3 B3 ci3 cj3
        go_quiet (fail)
        replace R3 : Hid (Sl (wA.drewN nq) w1.heap.size (.slice (some ⟨b, off, none⟩) n cap) xs) := Lib.hid (R3.out.drewN _)
        replace B3 : Hid (Below w.heap.size w (wA.drewN nq)) := Lib.hid (below_drewN B3.out _)
        clear ci3 cj3
        revert R3 B3
        generalize wA.drewN nq = w3
        intro R3 B3
        have bB : Below w3.heap.size w3 (w3.alloc (.cells #[.int .i64 1, .int .i64 0] 3)) := (Below.refl _ _).alloc (Nat.le_refl _) _
        have R4 := Lib.hid (R3.out.old bB)
        have B4 := Lib.hid (nextB B3.out bB)
        have P4 := Lib.hid (slPair w3 1 0)
        clear R3 B3 bB
        go_wp2_with fail
        refine (implAgree_is _ xs j i _ _ R4.out hsw).mono ?_
        rintro e _ ⟨rfl, d3, rfl⟩
        revert R4 B4 P4
        generalize w3.alloc (.cells #[.int .i64 1, .int .i64 0] 3) = w4
        intro R4 B4 P4
        go_wp2_with fail
        refine (implAgree_is _ xs i i _ _ (R4.out.drewN _) (agree_self _ _)).mono ?_
        rintro e _ ⟨rfl, d4, rfl⟩
        go_wp2_with fail
        refine (implStow_is _ _ [1, 0] [0, 0] _ _ _ ((P4.out.drewN _).old ((Below.refl _ _).alloc (Nat.le_refl _) _)) (slPair _ 0 0) stow10).mono ?_
        rintro e w5 ⟨rfl, b5⟩
        go_wp2
        go_ret
        exact ⟨rfl, nextB (nextB (below_drewN B4.out _) ((Below.refl _ _).alloc (Nat.le_refl _) _)) b5⟩
  · have hlt : decide ((1048576 : Int) < (len0 : Int)) = true := by simp; omega
    go_enter Try.func10, Try.ntmps10
    go_wp2
    go_ret
    exact ⟨rfl, Below.refl _ _⟩

set_option maxRecDepth 100000 in
theorem lifted (os : Os) (started : os.Started) (H : Type) (enc : TypeId × Value → H) :
    ReturnsInHanded {} Try.checked os 10 .any (Rows.fnAgreeSpec.pre6 enc Try.prog Try.f10 Rows.fnAgreeRow.domain false) (Rows.fnAgreeSpec.post enc Try.prog Try.f10 false true false false) := by
  refine returnsInHanded_of_change (C := Try.checked) own started (by kernel_rfl) Try.func10
    (ChangeSpec.witness6 (enc := enc) (C := Try.checked) false ⟨#[], #[.slice none 0 0], []⟩ 8 (by kernel_rfl) (by kernel_rfl) (by kernel_rfl) (by kernel_rfl)) ?_
  intro W base args ds gs before hval0 hW hcnd _
  have hval : ∀ (j : Nat) t v, Try.f10.params[j]? = some t → args[j]? = some v → Value.okWide Try.prog W .any base t v := hval0
  have hW' := hW
  obtain ⟨p, q, hA0, hV, rfl, hfz, hnd⟩ := hW
  have hA : DataW.TrodAll enc Try.prog W 0 (fun _ => true) true Try.f10.params.toList args.toList ds p := hA0
  rw [Try.params10] at hA hval
  obtain ⟨v0, vs0, d0, ds0, p0, q0, hargs, rfl, rfl, h0, r0⟩ := trodAll_cons hA
  obtain ⟨rfl, rfl, rfl⟩ := trodAll_nil r0
  obtain rfl : args = #[v0] := by cases args; simp_all
  obtain ⟨rfl, rfl⟩ := trodVars_none hV
  obtain ⟨a0, len0, cap0, rfl⟩ := okWide_slice Try.underlying33 (hval 0 33 v0 rfl rfl)
  have k0 := h0
  have lt0 : ∀ x ∈ p0, x.block < W.heap.size := by obtain ⟨m, hm⟩ := k0; exact DataW.trod_lt m _ _ _ hm
  obtain ⟨z0, w0⟩ := by0_of h0
  clear hA0 hval0
  refine (walk a0 len0 cap0 z0 W w0).mono fun e W' ⟨he, bel⟩ => ?_
  subst he
  exact ⟨_, rfl, _, _, _, [], _, [], hW', trodAll_mk1 (shut_bool Try.underlying4 _), (trodAll_cons_mk (Below.trod laidOut (by kernel_rfl) (of_decide_eq_true (by kernel_rfl)) k0 bel lt0) trodAll_mk0), rfl, bel.frame _, fun h => by cases h⟩

theorem over : Rows.fnAgreeRow.holds Try.pinned (OpenSpec.ofChange Rows.fnAgreeSpec) :=
  OpenClaim.holds_of_wide 10 Try.f10 rfl rfl rfl rfl rfl rfl rfl ⟨rfl, rfl, rfl, rfl, rfl⟩ rfl rfl rfl rfl rfl (by kernel_rfl) Try.func10 (facts_of signs (by kernel_rfl))
    (of_decide_eq_true (by kernel_rfl)) (by unfold Func.isWrapper; first | (rw [if_pos (by decide +kernel)]; kernel_rfl) | (rw [if_neg (by decide +kernel)]; exact ⟨rfl, rfl⟩))
    (fun os started H enc _ => lifted os started H enc)

theorem proved : Rows.FnAgreeSaid := over
#print axioms proved

end Go.Proofs.Ytldjnfcdmhcjdaa.fnAgree
