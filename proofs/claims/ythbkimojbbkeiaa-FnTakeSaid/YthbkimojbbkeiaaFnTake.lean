/- FnTake: what is taken is gone; taken in two parts, as much is left. -/
import Derived.Test.YthbkimojbbkeiaaLawD
import Derived.Test.YthbkimojbbkeiaaSpAt
import Derived.Test.YthbkimojbbkeiaaTkI
import Derived.Test.YthbkimojbbkeiaaTkLaw
import Derived.Test.YthbkimojbbkeiaaSameS
namespace Go.Proofs.Ythbkimojbbkeiaa.fnTake
open Go.ChangeShapes Go.WideShapes Go.ChangeAt Go.RowKit
set_option linter.unusedVariables false

theorem implTake_is {L : List Int} {N : Nat} {F : Bool} (v : Value) (k miles : Int) (cs : List Int) (n hi : Nat) (w : World) (hv : SlF 2 w hi v cs n) (h : tkB cs n k miles = F ∧ tkL cs n k miles = L ∧ tkN cs n k miles = N) :
    Calls Try.prog 39 #[v, .int .i64 k, .int .i64 miles] w fun e w' => ∃ v', e = .returned (.tuple #[v', .bool F]) ∧ Hid (Below w.heap.size w w') ∧ Hid (SlF 2 w' w'.heap.size v' L N) := by
  obtain ⟨rfl, rfl, rfl⟩ := h
  refine (implSparesTake_b v k miles cs n hi w hv).mono ?_
  rintro e w' ⟨v', rfl, b, s⟩
  exact ⟨v', rfl, b, s.out.sl⟩
theorem specTake_is {L : List Int} {N : Nat} {F : Bool} (v : Value) (k miles : Int) (cs : List Int) (n hi : Nat) (w : World) (hv : SlF 2 w hi v cs n) (h : tkB cs n k miles = F ∧ tkL cs n k miles = L ∧ tkN cs n k miles = N) :
    Calls Try.prog 38 #[v, .int .i64 k, .int .i64 miles] w fun e w' => ∃ v', e = .returned (.tuple #[v', .bool F]) ∧ Hid (Below w.heap.size w w') ∧ Hid (SlF 2 w' w'.heap.size v' L N) := by
  obtain ⟨rfl, rfl, rfl⟩ := h
  refine (specSparesTake_b v k miles cs n hi w hv).mono ?_
  rintro e w' ⟨v', rfl, b, s⟩
  exact ⟨v', rfl, b, (s.out.wr (Nat.le_trans tkN_le hv.len.2)).sl⟩
theorem implMiles_is {M : Int} (v : Value) (kind : Int) (cs : List Int) (n hi : Nat) (w : World) (hv : SlF 2 w hi v cs n) (h : kmI cs n kind = M) :
    Calls Try.prog 28 #[v, .int .i64 kind] w fun e w' => e = .returned (.int .i64 M) ∧ Below w.heap.size w w' := h ▸ implSparesMiles_b v kind cs n hi w hv

set_option maxRecDepth 100000 in
set_option maxHeartbeats 4000000 in
theorem walk (a0 : Option Addr) (len0 cap0 : Nat) (z0 : Unit) (w : World) (h0 : By w w.heap.size (.slice a0 len0 cap0) len0) :
    Calls Try.prog 11 #[.slice a0 len0 cap0] w fun e w' => e = .returned (.bool true) ∧ Below w.heap.size w w' := by
  by_cases hn : len0 ≤ 1048576
  · have hlt : decide ((1048576 : Int) < (len0 : Int)) = false := by simp; omega
    go_enter Try.func11, Try.ntmps11
    go_wp2_with fail
    refine (drawSparesTake_any _ len0 w.heap.size w h0 (Nat.le_refl _)).mono ?_
    rintro e w1 ⟨v1, k, m, rfl, hd⟩
    obtain ⟨cs, n, b1, s1, hn12, -, -⟩ := hd.out
    obtain ⟨L, hL⟩ : ∃ L, tkL cs n k m = L := ⟨_, rfl⟩
    obtain ⟨N, hN⟩ : ∃ N, tkN cs n k m = N := ⟨_, rfl⟩
    obtain ⟨F, hF⟩ : ∃ F, tkB cs n k m = F := ⟨_, rfl⟩
    have HE := Lib.hid (And.intro hF (And.intro hL hN))
    have B := Lib.hid b1
    have V1 := Lib.hid s1
    obtain ⟨a1, cap1, rfl, hl1, -⟩ := s1
    have HL := Lib.hid hl1
    have hne : (F != F) = false := by simp
    clear hd b1 hL hN hF hl1
    go_wp2_with fail
    refine (implTake_is _ k m cs n _ _ V1.out HE.out).mono ?_
    rintro e w2 ⟨v2, rfl, b2, s2⟩
    replace B := Lib.hid (nextW B.out b2.out)
    replace V1 := Lib.hid (V1.out.old b2.out)
    have V2 := s2
    obtain ⟨a2, cap2, rfl, -⟩ := s2.out
    clear b2 s2
    go_wp2_with fail
    refine (specTake_is _ k m cs n _ _ V1.out HE.out).mono ?_
    rintro e w3 ⟨v3, rfl, b3, s3⟩
    replace B := Lib.hid (nextW B.out b3.out)
    replace V1 := Lib.hid (V1.out.old b3.out)
    replace V2 := Lib.hid (V2.out.old b3.out)
    clear b3
    go_wp2_with fail
    refine (sameSpares_yes _ _ L N N _ _ _ V2.out s3.out).mono ?_
    rintro e w4 ⟨rfl, b4⟩
    replace B := Lib.hid (nextW B.out b4)
    replace V1 := Lib.hid (V1.out.old b4)
    replace V2 := Lib.hid (V2.out.old b4)
    replace s3 := Lib.hid (s3.out.old b4)
    clear b4
    cases F with
    | false =>
      go_wp2_with fail
      refine (sameSpares_yes _ _ L N N _ _ _ V2.out s3.out).mono ?_
      rintro e w5 ⟨rfl, b5⟩
      replace B := Lib.hid (nextW B.out b5)
      clear b5
      go_wp2_with fail
      go_ret
      exact ⟨rfl, B.out⟩
    | true =>
      obtain ⟨K, rfl, hKn, hm, hsp⟩ := tk_yes HE.out.1
      have HS := Lib.hid hsp
      have hKn2 : (K : Int) < (n : Int) := by omega
      have hq := (spB_true.1 hsp).2 K hKn
      unfold spOk at hq
      have hbd := kmI_bd (cs := cs) (n := n) (kind := ski cs K)
      obtain ⟨_, _, e2, _, _, _, _, hc⟩ := V1.out
      cases e2
      obtain ⟨b1, off1, rfl, hb1, hc⟩ := hc (by omega)
      obtain ⟨c0, c1⟩ := cellsS hc hKn (Below.refl _ _) (World.block_lt_of_cell? w4 _ (hc (K * 2) (by omega)))
      obtain ⟨bb, x0, x1⟩ := box2 w4 (smi cs K) (ski cs K) 35
      replace V1 := Lib.hid (V1.out.old bb)
      replace V2 := Lib.hid (V2.out.old bb)
      replace B := Lib.hid (nextW B.out bb)
      have X0 := Lib.hid x0
      have X1 := Lib.hid x1
      clear x0 x1 bb s3 hc hsp
      go_upto_region 9 with (fail)
      clear c0 c1
      revert X1
      revert X0
      revert B
      revert V1
      revert V2
      generalize w4.alloc (.cells #[.int .i64 (smi cs K), .int .i64 (ski cs K)] 35) = w5
      intro V2 V1 B X0 X1
      by_cases hx : smi cs K = m
      · have HT : Hid (L = del cs K ∧ N = n - 1 ∧ kmI (del cs K) (n - 1) (ski cs K) = kmI cs n (ski cs K) - m) := Lib.hid (by
          have h1 := tk_all hKn hq.1.1 HS.out
          have h2 := HE.out
          rw [hx] at h1
          refine ⟨h2.2.1.symm.trans h1.2.1, h2.2.2.symm.trans h1.2.2, ?_⟩
          rw [kmI_del HL.out hKn HS.out, hx])
        obtain ⟨rfl, rfl, h3⟩ := HT.out
        obtain ⟨M, hM⟩ : ∃ M, kmI cs n (ski cs K) = M := ⟨_, rfl⟩
        rw [hM] at h3 hbd
        have H3 := Lib.hid h3
        have HM := Lib.hid hM
        have hw : IntKind.i64.wrap (M - m) = M - m := IntWalk.i64_in _ (by omega)
        have hw2 : IntKind.i64.wrap ((n : Int) - 1) = (n : Int) - 1 := IntWalk.i64_in _ (by omega)
        have hln : (((n - 1 : Nat) : Int) == (n : Int) - 1) = true := by rw [beq_iff_eq]; omega
        clear HT h3 hM HE
        have hbx : (smi cs K == m) = true := by simp [hx]
        have x0 := X0.out
        have x1 := X1.out
        clear hx X0 X1
        revert HM
        revert H3
        revert hbx
        revert hq
        revert x1
        revert x0
        generalize ski cs K = y
        generalize smi cs K = x
        intro x0 x1 hq hbx H3 HM
        have k0 := cell_regrown x0
        have k1 := cell_regrown x1
        go_wp2_with fail
        refine wp_region_quiet_below (by kernel_rfl) (by kernel_rfl) ?_
        repeat (any_goals (first | go_big_quiet_step ((first | (go_at_call 28; exact Calls.regrown_of (implMiles_is _ y (del cs K) (n - 1) _ _ (V2.out.old (below_regrown _ _ _)) H3.out)) | (go_at_call 28; exact Calls.regrown_of (implMiles_is _ y cs n _ _ (V1.out.old (below_regrown _ _ _)) HM.out)))) | quiet_step ((first | (go_at_call 28; exact Calls.regrown_of (implMiles_is _ y (del cs K) (n - 1) _ _ (V2.out.old (below_regrown _ _ _)) H3.out)) | (go_at_call 28; exact Calls.regrown_of (implMiles_is _ y cs n _ _ (V1.out.old (below_regrown _ _ _)) HM.out))))))
        refine wpQuiet_nil ?_
        intro _ hw'
        obtain ⟨⟨dq, osq⟩, hw''⟩ := hw'
        subst hw''
        have bq := below_regrown (w5) dq osq
        revert bq
        generalize Go.Sort.grow (redrawn (w5) dq) osq = wq
        intro bq
        clear x0 x1 k0 k1
        go_wp2_with fail
        go_ret
        exact ⟨rfl, nextW B.out bq⟩
      · have hm2 : 1 ≤ m ∧ m < smi cs K := by omega
        obtain ⟨t1, t2⟩ := tk_some HL.out hKn hm2 HS.out
        obtain ⟨t3, t4, t5⟩ := tk_law HL.out hKn hm2 HS.out (t1.symm.trans HE.out.2.1)
        have t6 := tk_all hKn hq.1.1 HS.out
        obtain rfl : n = N := t2.symm.trans HE.out.2.2
        obtain ⟨M, hM⟩ : ∃ M, kmI cs n (ski cs K) = M := ⟨_, rfl⟩
        rw [hM] at t4 hbd
        obtain ⟨Y, hY⟩ := Int.eq_ofNat_of_zero_le hq.2.1
        have hY4 : ((Y : Int) + 1).tmod 4 = (((Y + 1) % 4 : Nat) : Int) := by rw [Int.tmod_eq_emod_of_nonneg (by omega)]; rfl
        obtain ⟨O, hO⟩ : ∃ O : Nat, (Y + 1) % 4 = O := ⟨_, rfl⟩
        rw [hO] at hY4
        obtain ⟨P, hP⟩ : ∃ P, kmI cs n (O : Int) = P := ⟨_, rfl⟩
        have t7 : kmI L n (O : Int) = P := (t5 (O : Int) (by rw [hY]; omega)).trans hP
        rw [hY] at hM t4
        obtain ⟨D, hD⟩ : ∃ D, del cs K = D := ⟨_, rfl⟩
        rw [hD] at t3 t6
        have T3 := Lib.hid t3
        have T4 := Lib.hid t4
        have T6 := Lib.hid t6
        have T7 := Lib.hid t7
        have HM := Lib.hid hM
        have HP := Lib.hid hP
        have hw : IntKind.i64.wrap (M - m) = M - m := IntWalk.i64_in _ (by omega)
        have hw2 : IntKind.i64.wrap (smi cs K - m) = smi cs K - m := IntWalk.i64_in _ (by omega)
        have hbx : (smi cs K == m) = false := by simp [hx]
        have hO3 : O ≤ 3 := by omega
        have hY3 : Y ≤ 3 := by omega
        clear t1 t2 t3 t4 t5 t6 t7 hM hP hD hx hO HE
        rw [hY] at X1
        clear hY
        have x0 := X0.out
        have x1 := X1.out
        revert T6
        revert T3
        revert hw2
        revert hbx
        revert hq
        revert hm2
        revert hm
        revert x1
        revert x0
        clear X0 X1
        generalize ski cs K = y
        generalize smi cs K = x
        intro x0 x1 hm hm2 hq hbx hw2 T3 T6
        have X0 := Lib.hid x0
        have X1 := Lib.hid x1
        go_wp2_with fail
        refine (implTake_is _ (K : Int) (x - m) L n _ _ V2.out T3.out).mono ?_
        rintro e w6 ⟨v6, rfl, b6, s6⟩
        clear x0 x1
        replace B := Lib.hid (nextW B.out b6.out)
        replace V1 := Lib.hid (V1.out.old b6.out)
        replace V2 := Lib.hid (V2.out.old b6.out)
        replace X0 := Lib.hid (cellB X0.out b6.out)
        replace X1 := Lib.hid (cellB X1.out b6.out)
        clear b6
        have x0 := X0.out
        have x1 := X1.out
        obtain ⟨a6, cap6, rfl, -⟩ := s6.out
        go_wp2_with fail
        refine (implTake_is _ (K : Int) x cs n _ _ V1.out T6.out).mono ?_
        rintro e w7 ⟨v7, rfl, b7, s7⟩
        clear x0 x1
        replace B := Lib.hid (nextW B.out b7.out)
        replace V1 := Lib.hid (V1.out.old b7.out)
        replace V2 := Lib.hid (V2.out.old b7.out)
        replace s6 := Lib.hid (s6.out.old b7.out)
        have x0 := cellB X0.out b7.out
        have x1 := cellB X1.out b7.out
        obtain ⟨a7, cap7, rfl, -⟩ := s7.out
        clear b7 X0 X1
        have k0 := cell_regrown x0
        have k1 := cell_regrown x1
        go_wp2_with fail
        refine wp_region_quiet_below (by kernel_rfl) (by kernel_rfl) ?_
        repeat (any_goals (first | go_big_quiet_step ((first | (go_at_call 46; exact Calls.regrown_of (sameSpares_yes _ _ D (n - 1) (n - 1) _ _ _ (s6.out.old (below_regrown _ _ _)) (s7.out.old (below_regrown _ _ _)))) | (go_at_call 28; with_reducible exact Calls.regrown_of (implMiles_is _ (Y : Int) L n _ _ (V2.out.old (below_regrown _ _ _)) T4.out)) | (go_at_call 28; with_reducible exact Calls.regrown_of (implMiles_is _ (Y : Int) cs n _ _ (V1.out.old (below_regrown _ _ _)) HM.out)) | (go_at_call 28; with_reducible exact Calls.regrown_of (implMiles_is _ (O : Int) L n _ _ (V2.out.old (below_regrown _ _ _)) T7.out)) | (go_at_call 28; with_reducible exact Calls.regrown_of (implMiles_is _ (O : Int) cs n _ _ (V1.out.old (below_regrown _ _ _)) HP.out)))) | quiet_step ((first | (go_at_call 46; exact Calls.regrown_of (sameSpares_yes _ _ D (n - 1) (n - 1) _ _ _ (s6.out.old (below_regrown _ _ _)) (s7.out.old (below_regrown _ _ _)))) | (go_at_call 28; with_reducible exact Calls.regrown_of (implMiles_is _ (Y : Int) L n _ _ (V2.out.old (below_regrown _ _ _)) T4.out)) | (go_at_call 28; with_reducible exact Calls.regrown_of (implMiles_is _ (Y : Int) cs n _ _ (V1.out.old (below_regrown _ _ _)) HM.out)) | (go_at_call 28; with_reducible exact Calls.regrown_of (implMiles_is _ (O : Int) L n _ _ (V2.out.old (below_regrown _ _ _)) T7.out)) | (go_at_call 28; with_reducible exact Calls.regrown_of (implMiles_is _ (O : Int) cs n _ _ (V1.out.old (below_regrown _ _ _)) HP.out))))))
        refine wpQuiet_nil ?_
        intro _ hw'
        obtain ⟨⟨dq, osq⟩, hw''⟩ := hw'
        subst hw''
        have bq := below_regrown (w7) dq osq
        revert bq
        generalize Go.Sort.grow (redrawn (w7) dq) osq = wq
        intro bq
        clear x0 x1 k0 k1
        go_wp2_with fail
        go_ret
        exact ⟨rfl, nextW B.out bq⟩
  · have hlt : decide ((1048576 : Int) < (len0 : Int)) = true := by simp; omega
    go_enter Try.func11, Try.ntmps11
    go_wp2
    go_ret
    exact ⟨rfl, Below.refl _ _⟩

set_option maxRecDepth 100000 in
theorem lifted (os : Os) (started : os.Started) (H : Type) (enc : TypeId × Value → H) :
    ReturnsInHanded {} Try.checked os 11 .any (Rows.fnTakeSpec.pre6 enc Try.prog Try.f11 Rows.fnTakeRow.domain false) (Rows.fnTakeSpec.post enc Try.prog Try.f11 false true false false) := by
  refine returnsInHanded_of_change (C := Try.checked) own started (by kernel_rfl) Try.func11
    (ChangeSpec.witness6 (enc := enc) (C := Try.checked) false ⟨#[], #[.slice none 0 0], []⟩ 8 (by kernel_rfl) (by kernel_rfl) (by kernel_rfl) (by kernel_rfl)) ?_
  intro W base args ds gs before hval0 hW hcnd _
  have hval : ∀ (j : Nat) t v, Try.f11.params[j]? = some t → args[j]? = some v → Value.okWide Try.prog W .any base t v := hval0
  have hW' := hW
  obtain ⟨p, q, hA0, hV, rfl, hfz, hnd⟩ := hW
  have hA : DataW.TrodAll enc Try.prog W 0 (fun _ => true) true Try.f11.params.toList args.toList ds p := hA0
  rw [Try.params11] at hA hval
  obtain ⟨v0, vs0, d0, ds0, p0, q0, hargs, rfl, rfl, h0, r0⟩ := trodAll_cons hA
  obtain ⟨rfl, rfl, rfl⟩ := trodAll_nil r0
  obtain rfl : args = #[v0] := by cases args; simp_all
  obtain ⟨rfl, rfl⟩ := trodVars_none hV
  obtain ⟨a0, len0, cap0, rfl⟩ := okWide_slice Try.underlying48 (hval 0 48 v0 rfl rfl)
  have k0 := h0
  have lt0 : ∀ x ∈ p0, x.block < W.heap.size := by obtain ⟨m, hm⟩ := k0; exact DataW.trod_lt m _ _ _ hm
  obtain ⟨z0, w0⟩ := by0_of h0
  clear hA0 hval0
  refine (walk a0 len0 cap0 z0 W w0).mono fun e W' ⟨he, bel⟩ => ?_
  subst he
  exact ⟨_, rfl, _, _, _, [], _, [], hW', trodAll_mk1 (shut_bool Try.underlying4 _), (trodAll_cons_mk (Below.trod laidOut (by kernel_rfl) (of_decide_eq_true (by kernel_rfl)) k0 bel lt0) trodAll_mk0), rfl, bel.frame _, fun h => by cases h⟩

theorem over : Rows.fnTakeRow.holds Try.pinned (OpenSpec.ofChange Rows.fnTakeSpec) :=
  OpenClaim.holds_of_wide 11 Try.f11 rfl rfl rfl rfl rfl rfl rfl ⟨rfl, rfl, rfl, rfl, rfl⟩ rfl rfl rfl rfl rfl (by kernel_rfl) Try.func11 (facts_of signs (by kernel_rfl))
    (of_decide_eq_true (by kernel_rfl)) (by unfold Func.isWrapper; first | (rw [if_pos (by decide +kernel)]; kernel_rfl) | (rw [if_neg (by decide +kernel)]; exact ⟨rfl, rfl⟩))
    (fun os started H enc _ => lifted os started H enc)

theorem proved : Rows.FnTakeSaid := over
#print axioms proved

end Go.Proofs.Ythbkimojbbkeiaa.fnTake
