/- FnServeBest: no other spare at any place wastes less, or as little and comes first. -/
import Derived.Test.YthbkimojbbkeiaaLawD
import Derived.Test.YthbkimojbbkeiaaSvG3
namespace Go.Proofs.Ythbkimojbbkeiaa.fnServeBest
open Go.ChangeShapes Go.WideShapes Go.ChangeAt Go.RowKit
set_option linter.unusedVariables false

set_option maxRecDepth 100000 in
set_option maxHeartbeats 4000000 in
theorem walk (a0 : Option Addr) (len0 cap0 : Nat) (z0 : Unit) (w : World) (h0 : By w w.heap.size (.slice a0 len0 cap0) len0) :
    Calls Try.prog 17 #[.slice a0 len0 cap0] w fun e w' => e = .returned (.bool true) ∧ Below w.heap.size w w' := by
  by_cases hn : len0 ≤ 1048576
  · have hlt : decide ((1048576 : Int) < (len0 : Int)) = false := decide_eq_false (by omega)
    go_enter Try.func17, Try.ntmps17
    go_wp2_with fail
    refine (drawServeBest_any _ len0 w.heap.size w h0 (Nat.le_refl _)).mono ?_
    rintro e w1 ⟨v1, v2, rfl, hd⟩
    obtain ⟨cs, n, ds, m, b1, s1, s2, hn12, hm4⟩ := hd.out
    obtain ⟨L, hL⟩ : ∃ L, sbL cs n ds m = L := ⟨_, rfl⟩
    obtain ⟨F, hF⟩ : ∃ F, scB cs n ds m = F := ⟨_, rfl⟩
    have HM : Hid (sbL cs n ds m = L ∧ scB cs n ds m = F) := Lib.hid ⟨hL, hF⟩
    have B := Lib.hid b1
    have V1 := Lib.hid s1
    have V2 := Lib.hid s2
    obtain ⟨c1, k1, rfl, -⟩ := s1
    obtain ⟨c2, k2, rfl, -⟩ := s2
    clear hd b1 hL hF
    go_wp2_with fail
    refine (implServeBest_is _ _ cs ds n m _ _ _ V1.out V2.out HM.out).mono ?_
    rintro e w2 ⟨v3, rfl, b, r3⟩
    replace B := Lib.hid (nextW B.out b)
    replace V1 := Lib.hid (V1.out.old b)
    replace V2 := Lib.hid (V2.out.old b)
    have V3 := Lib.hid r3
    obtain ⟨c3, l3, k3, rfl, hl3, -⟩ := r3
    have HL := Lib.hid hl3
    clear b hl3
    go_wp2_with fail
    refine (specServeBest_is _ _ cs ds n m _ _ _ V1.out V2.out HM.out).mono ?_
    rintro e w3 ⟨v4, rfl, b, r4⟩
    replace B := Lib.hid (nextW B.out b)
    replace V1 := Lib.hid (V1.out.old b)
    replace V2 := Lib.hid (V2.out.old b)
    replace V3 := Lib.hid (V3.out.old b)
    have V4 := Lib.hid r4.sl
    obtain ⟨c4, l4, k4, rfl, -⟩ := r4
    clear b
    have hne : (F != F) = false := by simp
    go_wp2_with fail
    refine (sameInts_b (r := true) _ _ L L _ _ _ V3.out.sl V4.out (by simp)).mono ?_
    rintro e w4 ⟨rfl, b⟩
    replace B := Lib.hid (nextW B.out b)
    replace V1 := Lib.hid (V1.out.old b)
    replace V2 := Lib.hid (V2.out.old b)
    replace V3 := Lib.hid (V3.out.old b)
    replace V4 := Lib.hid (V4.out.old b)
    clear b
    cases F with
    | false =>
      go_wp2_with fail
      refine (sameInts_b (r := true) _ _ L L _ _ _ V3.out.sl V4.out (by simp)).mono ?_
      rintro e w5 ⟨rfl, b⟩
      replace B := Lib.hid (nextW B.out b)
      go_wp2
      go_ret
      exact ⟨rfl, B.out⟩
    | true =>
      clear V4
      obtain ⟨Q, hQ⟩ : ∃ Q, swI cs n ds m L = Q := ⟨_, rfl⟩
      have HQ := Lib.hid hQ
      have hQ0 : decide (0 ≤ Q) = true := decide_eq_true (by
        rw [← hQ, ← HM.out.1, (best_of_sc HM.out.2).2.2.1]
        have := HM.out.2
        rw [scB, Bool.and_eq_true, decide_eq_true_eq] at this
        exact this.2)
      have HSW : Hid (∀ (i j : Nat) (T : Int), i < m → swI cs n ds m (L.set i (j : Int)) = T → 0 ≤ T → Q ≤ T ∧ (T = Q → gi L i ≤ (j : Int))) := Lib.hid fun i j T hi hT h0 => by
        have h1 := HM.out.1
        rw [← h1] at hT
        have := sw_swap HM.out.2 hi hT h0
        rw [h1, hQ] at this
        exact this
      obtain rfl : l3 = m := by
        have h1 := (best_of_sc HM.out.2).2.1
        rw [HM.out.1] at h1
        have := HL.out
        omega
      clear hQ
      go_wp2_with fail
      refine (implServeWaste_is _ _ _ cs ds L n l3 _ _ _ _ V1.out V2.out V3.out.sl HQ.out).mono ?_
      rintro e w5 ⟨rfl, b⟩
      replace B := Lib.hid (nextW B.out b)
      replace V1 := Lib.hid (V1.out.old b)
      replace V2 := Lib.hid (V2.out.old b)
      replace V3 := Lib.hid (V3.out.old b)
      clear b
      go_wp2
      go_loopw [10] (fun i wr => ∃ k : Nat, k ≤ l3 ∧ i = .int .i64 k ∧ Hid (Below w5.heap.size w5 wr)) (fun i _ => l3 - (intOf i).toNat)
      case atStart => exact ⟨0, Nat.zero_le _, rfl, Below.refl _ _⟩
      case round =>
        obtain ⟨k, hk, rfl, hB⟩ := hrel
        by_cases hlt2 : k < l3
        · go_wp2
          go_loopw [11] (fun i wr2 => ∃ j : Nat, j ≤ n ∧ i = .int .i64 j ∧ Hid (Below w5.heap.size w5 wr2)) (fun i _ => n - (intOf i).toNat)
          case atStart => exact ⟨0, Nat.zero_le _, rfl, hB⟩
          case round =>
            clear hB
            rename_i wx
            obtain ⟨j, hj, rfl, hB⟩ := hrel
            by_cases hlt3 : j < n
            · have W3 := Lib.hid (V3.out.old hB.out)
              have bx := (Below.refl wr.heap.size wr).alloc (Nat.le_refl _) (.cells #[] 3)
              have X3 := Lib.hid ((W3.out.rs (by rw [HL.out]; omega)).old bx)
              have BX := Lib.hid bx
              have hz2 : wr.heap.size ≤ (wr.alloc (.cells #[] 3)).heap.size := by simp
              have OW := Lib.hid (OwI.empty wr wr.heap.size (Nat.le_refl _))
              have hl1 : L.length ≤ 1048576 := by rw [HL.out]; omega
              have hkl : (k : Int) < (l3 : Int) := by omega
              clear bx
              go_wp2_with (at_builtin; refine wpList_app OW.out X3.out.2 (by rfl) (by rfl) (by rfl) (by rfl) (by simp) hl1 hz2 ?_; intro v5 w6 ow5 b5 g5; clear g5; rw [List.nil_append] at ow5; have OW5 := Lib.hid ow5; have B5 := Lib.hid b5; obtain ⟨g, c5, e5, hgB, hgl, -, -, hcl, hfz⟩ := ow5.form (by rw [HL.out]; omega); rw [HL.out] at e5; subst e5; have hck := hcl k (by rw [HL.out]; omega); have hfk := hfz k; clear ow5 b5 hcl hfz)
              obtain ⟨T, hT⟩ : ∃ T, swI cs n ds l3 (L.set k (j : Int)) = T := ⟨_, rfl⟩
              have HT := Lib.hid hT
              have HS := Lib.hid (HSW.out k j T hlt2 hT)
              clear hT
              have bT := (BX.out.trans B5.out).setCell (p := ⟨g, k, none⟩) hgB (.int .i64 (j : Int))
              have O6 := Lib.hid (OW5.out.set k (j : Int))
              have X1 := Lib.hid ((V1.out.old hB.out).old bT)
              have X2 := Lib.hid ((V2.out.old hB.out).old bT)
              have Y3 := Lib.hid (W3.out.old bT)
              have B6 := Lib.hid (nextW hB.out bT)
              clear bT OW OW5 X3 BX B5 W3 hck hfk hB
              revert O6 X1 X2 Y3 B6
              generalize w6.setCell ⟨g, k, none⟩ (.int .i64 (j : Int)) = w7
              intro O6 X1 X2 Y3 B6
              go_wp2_with fail
              refine (implServeWaste_is _ _ _ cs ds (L.set k (j : Int)) n l3 _ _ _ _ X1.out X2.out (O6.out.wr (by rw [List.length_set]; exact hl1)).sl HT.out).mono ?_
              rintro e w8 ⟨rfl, b8⟩
              have B8 := Lib.hid (nextW B6.out b8)
              have Z3 := Lib.hid (Y3.out.old b8)
              clear b8 O6 X1 X2 Y3 B6
              by_cases hT0 : 0 ≤ T
              · have t1 : decide (0 ≤ T) = true := decide_eq_true hT0
                have t2 : decide (T < Q) = false := decide_eq_false (by have := (HS.out hT0).1; omega)
                by_cases hTQ : T = Q
                · have t3 : (T == Q) = true := by simp [hTQ]
                  obtain ⟨_, _, _, e3, _, _, _, _, hc3⟩ := Z3.out.sl
                  cases e3
                  obtain ⟨b3, off3, rfl, hb3, hc3⟩ := hc3 (by omega)
                  have d0 := hc3 k hlt2
                  have t4 : decide ((j : Int) < gi L k) = false := decide_eq_false (by have := (HS.out hT0).2 hTQ; omega)
                  clear hc3
                  go_wp2
                  go_roundw
                  case rel => exact ⟨j + 1, by omega, by go_num, B8⟩
                  case measure => simp [intOf]; omega
                · have t3 : (T == Q) = false := by simp [hTQ]
                  go_wp2
                  go_roundw
                  case rel => exact ⟨j + 1, by omega, by go_num, B8⟩
                  case measure => simp [intOf]; omega
              · have t1 : decide (0 ≤ T) = false := decide_eq_false hT0
                go_wp2
                go_roundw
                case rel => exact ⟨j + 1, by omega, by go_num, B8⟩
                case measure => simp [intOf]; omega
            · obtain rfl : n = j := by omega
              go_wp2
              go_roundw
              case rel => exact ⟨k + 1, by omega, by go_num, hB⟩
              case measure => simp [intOf]; omega
        · obtain rfl : l3 = k := by omega
          have X1 := Lib.hid (V1.out.old hB.out)
          have X2 := Lib.hid (V2.out.old hB.out)
          go_wp2_with fail
          refine (implServeCan_is _ _ cs ds n l3 _ _ _ X1.out X2.out HM.out.2).mono ?_
          rintro e w7 ⟨rfl, b7⟩
          go_wp2
          go_ret
          exact ⟨rfl, nextW B.out (nextW hB.out b7)⟩
  · have hlt : decide ((1048576 : Int) < (len0 : Int)) = true := decide_eq_true (by omega)
    go_enter Try.func17, Try.ntmps17
    go_wp2
    go_ret
    exact ⟨rfl, Below.refl _ _⟩

set_option maxRecDepth 100000 in
theorem lifted (os : Os) (started : os.Started) (H : Type) (enc : TypeId × Value → H) :
    ReturnsInHanded {} Try.checked os 17 .any (Rows.fnServeBestSpec.pre6 enc Try.prog Try.f17 Rows.fnServeBestRow.domain false) (Rows.fnServeBestSpec.post enc Try.prog Try.f17 false true false false) := by
  refine returnsInHanded_of_change (C := Try.checked) own started (by kernel_rfl) Try.func17
    (ChangeSpec.witness6 (enc := enc) (C := Try.checked) false ⟨#[], #[.slice none 0 0], []⟩ 8 (by kernel_rfl) (by kernel_rfl) (by kernel_rfl) (by kernel_rfl)) ?_
  intro W base args ds gs before hval0 hW hcnd _
  have hval : ∀ (j : Nat) t v, Try.f17.params[j]? = some t → args[j]? = some v → Value.okWide Try.prog W .any base t v := hval0
  have hW' := hW
  obtain ⟨p, q, hA0, hV, rfl, hfz, hnd⟩ := hW
  have hA : DataW.TrodAll enc Try.prog W 0 (fun _ => true) true Try.f17.params.toList args.toList ds p := hA0
  rw [Try.params17] at hA hval
  obtain ⟨v0, vs0, d0, ds0, p0, q0, hargs, rfl, rfl, h0, r0⟩ := trodAll_cons hA
  obtain ⟨rfl, rfl, rfl⟩ := trodAll_nil r0
  obtain rfl : args = #[v0] := by cases args; simp_all
  obtain ⟨rfl, rfl⟩ := trodVars_none hV
  obtain ⟨a0, len0, cap0, rfl⟩ := okWide_slice Try.underlying48 (hval 0 48 v0 rfl rfl)
  have k0 := h0
  have lt0 : ∀ x ∈ p0, x.block < W.heap.size := by obtain ⟨m, hm⟩ := k0; exact DataW.trod_lt m _ _ _ hm
  obtain ⟨z0, w0⟩ := by0_of h0
  clear hA0 hval0
  refine (walk a0 len0 cap0 z0 W w0).mono fun e W' ⟨he, bel⟩ => ?_
  subst he
  exact ⟨_, rfl, _, _, _, [], _, [], hW', trodAll_mk1 (shut_bool Try.underlying4 _), (trodAll_cons_mk (Below.trod laidOut (by kernel_rfl) (of_decide_eq_true (by kernel_rfl)) k0 bel lt0) trodAll_mk0), rfl, bel.frame _, fun h => by cases h⟩

theorem over : Rows.fnServeBestRow.holds Try.pinned (OpenSpec.ofChange Rows.fnServeBestSpec) :=
  OpenClaim.holds_of_wide 17 Try.f17 rfl rfl rfl rfl rfl rfl rfl ⟨rfl, rfl, rfl, rfl, rfl⟩ rfl rfl rfl rfl rfl (by kernel_rfl) Try.func17 (facts_of signs (by kernel_rfl))
    (of_decide_eq_true (by kernel_rfl)) (by unfold Func.isWrapper; first | (rw [if_pos (by decide +kernel)]; kernel_rfl) | (rw [if_neg (by decide +kernel)]; exact ⟨rfl, rfl⟩))
    (fun os started H enc _ => lifted os started H enc)

theorem proved : Rows.FnServeBestSaid := over
#print axioms proved

end Go.Proofs.Ythbkimojbbkeiaa.fnServeBest
