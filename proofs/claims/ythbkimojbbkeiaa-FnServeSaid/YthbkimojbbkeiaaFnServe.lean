/- FnServe: a serving names each spare once; fewer needs are served too; the set can be served. -/
import Derived.Test.YthbkimojbbkeiaaLawD
import Derived.Test.YthbkimojbbkeiaaSvG
namespace Go.Proofs.Ythbkimojbbkeiaa.fnServe
open Go.ChangeShapes Go.WideShapes Go.ChangeAt Go.RowKit
set_option linter.unusedVariables false

theorem implServeMany_is {M : Int} (v1 v2 : Value) (cs ds : List Int) (n m h1 h2 : Nat) (w : World) (hv1 : SlF 2 w h1 v1 cs n) (hv2 : SlF 2 w h2 v2 ds m) (h : smI cs n ds m = M) :
    Calls Try.prog 37 #[v1, v2] w fun e w' => e = .returned (.int .i64 M) ∧ Below w.heap.size w w' := h ▸ implServeMany_b v1 v2 cs ds n m h1 h2 w hv1 hv2
theorem implServeCan_is {r : Bool} (v1 v2 : Value) (cs ds : List Int) (n m h1 h2 : Nat) (w : World) (hv1 : SlF 2 w h1 v1 cs n) (hv2 : SlF 2 w h2 v2 ds m) (h : scB cs n ds m = r) :
    Calls Try.prog 43 #[v1, v2] w fun e w' => e = .returned (.bool r) ∧ Below w.heap.size w w' := h ▸ implServeCan_b v1 v2 cs ds n m h1 h2 w hv1 hv2

set_option maxRecDepth 100000 in
set_option maxHeartbeats 4000000 in
theorem walk (a0 : Option Addr) (len0 cap0 : Nat) (z0 : Unit) (a1 : Option Addr) (len1 cap1 : Nat) (z1 : Unit) (w : World) (h0 : By w w.heap.size (.slice a0 len0 cap0) len0) (_ : By w w.heap.size (.slice a1 len1 cap1) len1) :
    Calls Try.prog 15 #[.slice a0 len0 cap0, .slice a1 len1 cap1] w fun e w' => e = .returned (.bool true) ∧ Below w.heap.size w w' := by
  by_cases hn : len0 ≤ 1048576
  · have hlt : decide ((1048576 : Int) < (len0 : Int)) = false := decide_eq_false (by omega)
    by_cases hn1 : len1 ≤ 1048576
    · have hlt1 : decide ((1048576 : Int) < (len1 : Int)) = false := decide_eq_false (by omega)
      go_enter Try.func15, Try.ntmps15
      go_wp2_with fail
      refine (drawServeValid_any _ len0 w.heap.size w h0 (Nat.le_refl _)).mono ?_
      rintro e w1 ⟨v1, v2, v3, rfl, hd⟩
      obtain ⟨cs, n, ds, m, sv, b1, s1, s2, s3, hn12, hm4⟩ := hd.out
      obtain ⟨M, hM⟩ : ∃ M, svB cs n ds m sv = M := ⟨_, rfl⟩
      have HM := Lib.hid hM
      have B := Lib.hid b1
      have V1 := Lib.hid s1
      have V2 := Lib.hid s2
      have V3 := Lib.hid s3
      obtain ⟨c1, k1, rfl, -⟩ := s1
      obtain ⟨c2, k2, rfl, -, -, hk2, hk3, -⟩ := s2
      obtain ⟨c3, l3, k3, rfl, hl3, hl30, hl31, hl32, -⟩ := s3
      have HL := Lib.hid hl3
      clear hd b1 hM hl3
      go_wp2_with fail
      refine (implServeValid_is _ _ _ cs ds sv n m _ _ _ _ V1.out V2.out V3.out HM.out).mono ?_
      rintro e w2 ⟨rfl, b⟩
      replace B := Lib.hid (nextW B.out b)
      replace V1 := Lib.hid (V1.out.old b)
      replace V2 := Lib.hid (V2.out.old b)
      replace V3 := Lib.hid (V3.out.old b)
      clear b
      go_wp2_with fail
      refine (specServeValid_is _ _ _ cs ds sv n m _ _ _ _ V1.out V2.out V3.out HM.out).mono ?_
      rintro e w3 ⟨rfl, b⟩
      replace B := Lib.hid (nextW B.out b)
      replace V1 := Lib.hid (V1.out.old b)
      replace V2 := Lib.hid (V2.out.old b)
      replace V3 := Lib.hid (V3.out.old b)
      clear b
      cases M with
      | false =>
        go_wp2
        go_ret
        exact ⟨rfl, B.out⟩
      | true =>
        obtain rfl : l3 = m := by have := (svB_true.1 HM.out).2.1; have := HL.out; omega
        have hm : (len1 : Int).tmod ((l3 : Int) + 1) = ((len1 % (l3 + 1) : Nat) : Int) := by rw [Int.tmod_eq_emod_of_nonneg (by omega)]; rfl
        have hq : len1 % (l3 + 1) ≤ l3 := by have := Nat.mod_lt len1 (show 0 < l3 + 1 by omega); omega
        have hmne : (((l3 : Int) + 1) == 0) = false := by simp; omega
        revert hm hq
        generalize len1 % (l3 + 1) = q
        intro hm hq
        go_wp2
        go_loopw [11] (fun i wr => ∃ k : Nat, k ≤ l3 ∧ i = .int .i64 k ∧ Hid (Below w3.heap.size w3 wr)) (fun i _ => l3 - (intOf i).toNat)
        case atStart => exact ⟨0, Nat.zero_le _, rfl, Below.refl _ _⟩
        case round =>
          obtain ⟨k, hk, rfl, hB⟩ := hrel
          by_cases hlt2 : k < l3
          · go_wp2
            go_loopw [12] (fun i wr2 => ∃ j : Nat, j ≤ k ∧ i = .int .i64 j ∧ Hid (Below w3.heap.size w3 wr2)) (fun i _ => k - (intOf i).toNat)
            case atStart => exact ⟨0, Nat.zero_le _, rfl, hB⟩
            case round =>
              clear hB
              obtain ⟨j, hj, rfl, hB⟩ := hrel
              by_cases hlt3 : j < k
              · have W3 := Lib.hid (V3.out.old hB.out)
                obtain ⟨_, _, _, e3, _, _, _, _, hc3⟩ := W3.out
                cases e3
                obtain ⟨b3, off3, rfl, hb3, hc3⟩ := hc3 (by omega)
                have d0 := hc3 k hlt2
                have d1 := hc3 j (by omega)
                have hne : (gi sv j == gi sv k) = false := by
                  have := sv_ne HM.out hlt2 hlt3
                  simp [this]
                clear hc3
                revert d0 d1 hne
                generalize gi sv j = x
                generalize gi sv k = y
                intro d0 d1 hne
                go_wp2
                go_quiet (fail)
                go_wp2
                go_roundw
                case rel => exact ⟨j + 1, by omega, by go_num, Lib.hid (below_drewN hB.out _)⟩
                case measure => simp [intOf]; omega
              · obtain rfl : k = j := by omega
                go_wp2
                go_roundw
                case rel => exact ⟨k + 1, by omega, by go_num, hB⟩
                case measure => simp [intOf]; omega
          · obtain rfl : l3 = k := by omega
            have X1 := Lib.hid (V1.out.old hB.out)
            have X2 := Lib.hid (V2.out.old hB.out)
            have X3 := Lib.hid (V3.out.old hB.out)
            have hqk2 : q ≤ k2 := by omega
            have hqk3 : q ≤ k3 := by omega
            have HC := Lib.hid (svB_cut HM.out hq)
            have HS := Lib.hid (sv_can HM.out)
            obtain ⟨S, hS⟩ : ∃ S, smI cs n ds l3 = S := ⟨_, rfl⟩
            have hS1 : decide (1 ≤ S) = true := decide_eq_true (by rw [← hS]; exact HS.out.2)
            clear V1 V2 V3
            go_wp2_with fail
            refine wp_region_quiet_below (by kernel_rfl) (by kernel_rfl) ?_
            repeat (any_goals (first | go_big_quiet_step ((first | (go_at_call 34; exact Calls.regrown_of (implServeValid_is _ _ _ cs _ _ n q _ _ _ _ (X1.out.old (below_regrown _ _ _)) ((X2.out.cut2 hq).old (below_regrown _ _ _)) ((X3.out.cut hq).old (below_regrown _ _ _)) HC.out)) | (go_at_call 43; exact Calls.regrown_of (implServeCan_is _ _ cs ds n l3 _ _ _ (X1.out.old (below_regrown _ _ _)) (X2.out.old (below_regrown _ _ _)) HS.out.1)) | (go_at_call 37; exact Calls.regrown_of (implServeMany_is _ _ cs ds n l3 _ _ _ (X1.out.old (below_regrown _ _ _)) (X2.out.old (below_regrown _ _ _)) hS)))) | quiet_step ((first | (go_at_call 34; exact Calls.regrown_of (implServeValid_is _ _ _ cs _ _ n q _ _ _ _ (X1.out.old (below_regrown _ _ _)) ((X2.out.cut2 hq).old (below_regrown _ _ _)) ((X3.out.cut hq).old (below_regrown _ _ _)) HC.out)) | (go_at_call 43; exact Calls.regrown_of (implServeCan_is _ _ cs ds n l3 _ _ _ (X1.out.old (below_regrown _ _ _)) (X2.out.old (below_regrown _ _ _)) HS.out.1)) | (go_at_call 37; exact Calls.regrown_of (implServeMany_is _ _ cs ds n l3 _ _ _ (X1.out.old (below_regrown _ _ _)) (X2.out.old (below_regrown _ _ _)) hS))))))
            refine wpQuiet_nil ?_
            intro _ hw'
            obtain ⟨⟨dq, osq⟩, hw''⟩ := hw'
            subst hw''
            have bq := below_regrown (wr) dq osq
            revert bq
            generalize Go.Sort.grow (redrawn (wr) dq) osq = wq
            intro bq
            go_wp2
            go_ret
            exact ⟨rfl, nextW B.out (nextW hB.out bq)⟩
    · have hlt1 : decide ((1048576 : Int) < (len1 : Int)) = true := decide_eq_true (by omega)
      go_enter Try.func15, Try.ntmps15
      go_wp2
      go_ret
      exact ⟨rfl, Below.refl _ _⟩
  · have hlt : decide ((1048576 : Int) < (len0 : Int)) = true := decide_eq_true (by omega)
    go_enter Try.func15, Try.ntmps15
    go_wp2
    go_ret
    exact ⟨rfl, Below.refl _ _⟩

set_option maxRecDepth 100000 in
theorem lifted (os : Os) (started : os.Started) (H : Type) (enc : TypeId × Value → H) :
    ReturnsInHanded {} Try.checked os 15 .any (Rows.fnServeSpec.pre6 enc Try.prog Try.f15 Rows.fnServeRow.domain false) (Rows.fnServeSpec.post enc Try.prog Try.f15 false true false false) := by
  refine returnsInHanded_of_change (C := Try.checked) own started (by kernel_rfl) Try.func15
    (ChangeSpec.witness6 (enc := enc) (C := Try.checked) false ⟨#[], #[.slice none 0 0, .slice none 0 0], []⟩ 8 (by kernel_rfl) (by kernel_rfl) (by kernel_rfl) (by kernel_rfl)) ?_
  intro W base args ds gs before hval0 hW hcnd _
  have hval : ∀ (j : Nat) t v, Try.f15.params[j]? = some t → args[j]? = some v → Value.okWide Try.prog W .any base t v := hval0
  have hW' := hW
  obtain ⟨p, q, hA0, hV, rfl, hfz, hnd⟩ := hW
  have hA : DataW.TrodAll enc Try.prog W 0 (fun _ => true) true Try.f15.params.toList args.toList ds p := hA0
  rw [Try.params15] at hA hval
  obtain ⟨v0, vs0, d0, ds0, p0, q0, hargs, rfl, rfl, h0, r0⟩ := trodAll_cons hA
  obtain ⟨v1, vs1, d1, ds1, p1, q1, rfl, rfl, rfl, h1, r1⟩ := trodAll_cons r0
  obtain ⟨rfl, rfl, rfl⟩ := trodAll_nil r1
  obtain rfl : args = #[v0, v1] := by cases args; simp_all
  obtain ⟨rfl, rfl⟩ := trodVars_none hV
  obtain ⟨a0, len0, cap0, rfl⟩ := okWide_slice Try.underlying48 (hval 0 48 v0 rfl rfl)
  have k0 := h0
  have lt0 : ∀ x ∈ p0, x.block < W.heap.size := by obtain ⟨m, hm⟩ := k0; exact DataW.trod_lt m _ _ _ hm
  obtain ⟨z0, w0⟩ := by0_of h0
  obtain ⟨a1, len1, cap1, rfl⟩ := okWide_slice Try.underlying48 (hval 1 48 v1 rfl rfl)
  have k1 := h1
  have lt1 : ∀ x ∈ p1, x.block < W.heap.size := by obtain ⟨m, hm⟩ := k1; exact DataW.trod_lt m _ _ _ hm
  obtain ⟨z1, w1⟩ := by0_of h1
  clear hA0 hval0
  refine (walk a0 len0 cap0 z0 a1 len1 cap1 z1 W w0 w1).mono fun e W' ⟨he, bel⟩ => ?_
  subst he
  exact ⟨_, rfl, _, _, _, [], _, [], hW', trodAll_mk1 (shut_bool Try.underlying4 _), (trodAll_cons_mk (Below.trod laidOut (by kernel_rfl) (of_decide_eq_true (by kernel_rfl)) k0 bel lt0) (trodAll_cons_mk (Below.trod laidOut (by kernel_rfl) (of_decide_eq_true (by kernel_rfl)) k1 bel lt1) trodAll_mk0)), rfl, bel.frame _, fun h => by cases h⟩

theorem over : Rows.fnServeRow.holds Try.pinned (OpenSpec.ofChange Rows.fnServeSpec) :=
  OpenClaim.holds_of_wide 15 Try.f15 rfl rfl rfl rfl rfl rfl rfl ⟨rfl, rfl, rfl, rfl, rfl⟩ rfl rfl rfl rfl rfl (by kernel_rfl) Try.func15 (facts_of signs (by kernel_rfl))
    (of_decide_eq_true (by kernel_rfl)) (by unfold Func.isWrapper; first | (rw [if_pos (by decide +kernel)]; kernel_rfl) | (rw [if_neg (by decide +kernel)]; exact ⟨rfl, rfl⟩))
    (fun os started H enc _ => lifted os started H enc)

theorem proved : Rows.FnServeSaid := over
#print axioms proved

end Go.Proofs.Ythbkimojbbkeiaa.fnServe
