/- FnSparesSort: sorted spares are the same spares, in order; sorting again turns nothing; what fits, fits as well. -/
import Derived.Test.YthbkimojbbkeiaaLawD
import Derived.Test.YthbkimojbbkeiaaSpDr3
import Derived.Test.YthbkimojbbkeiaaSoS
import Derived.Test.YthbkimojbbkeiaaSoLaw
import Derived.Test.YthbkimojbbkeiaaSameS
import Derived.Test.YthbkimojbbkeiaaSpFit
namespace Go.Proofs.Ythbkimojbbkeiaa.fnSparesSort
open Go.ChangeShapes Go.WideShapes Go.ChangeAt Go.RowKit
set_option linter.unusedVariables false

theorem implSort_is {L : List Int} {N : Nat} {F : Bool} (v : Value) (cs : List Int) (n hi : Nat) (w : World) (hv : SlF 2 w hi v cs n) (h : srtL cs n = L ∧ srtN cs n = N ∧ spB 10 cs n = F) :
    Calls Try.prog 60 #[v] w fun e w' => ∃ v', e = .returned (.tuple #[v', .bool F]) ∧ Hid (Below w.heap.size w w') ∧ Hid (SlF 2 w' w'.heap.size v' L N) := by
  obtain ⟨rfl, rfl, rfl⟩ := h
  refine (implSparesSort_b v cs n hi w hv).mono ?_
  rintro e w' ⟨v', rfl, b, s⟩
  exact ⟨v', rfl, b, s.out.sl⟩
theorem specSort_is {L : List Int} {N : Nat} {F : Bool} (v : Value) (cs : List Int) (n hi : Nat) (w : World) (hv : SlF 2 w hi v cs n) (h : srtL cs n = L ∧ srtN cs n = N ∧ spB 10 cs n = F) :
    Calls Try.prog 61 #[v] w fun e w' => ∃ v', e = .returned (.tuple #[v', .bool F]) ∧ Hid (Below w.heap.size w w') ∧ Hid (SlF 2 w' w'.heap.size v' L N) := by
  obtain ⟨rfl, rfl, rfl⟩ := h
  refine (specSparesSort_b v cs n hi w hv).mono ?_
  rintro e w' ⟨v', rfl, b, s⟩
  exact ⟨v', rfl, b, s.out.sl⟩

theorem implFit_is {I : Int} {G : Bool} (v : Value) (nm nk : Int) (cs : List Int) (n hi : Nat) (w : World) (hv : SlF 2 w hi v cs n) (h : fitI cs n nm nk = I ∧ fitB cs n nm nk = G) :
    Calls Try.prog 31 #[v, .agg #[.int .i64 nm, .int .i64 nk]] w fun e w' => e = .returned (.tuple #[.int .i64 I, .bool G]) ∧ Below w.heap.size w w' := by
  obtain ⟨rfl, rfl⟩ := h
  exact implSparesFit_b v nm nk cs n hi w hv
theorem again {cs L : List Int} {n : Nat} (h : spB 10 cs n = true) (hL : srtL cs n = L) :
    (srtL L n = L ∧ srtN L n = n ∧ spB 10 L n = true) ∧ (∀ i, i + 1 < n → ¬ ski L (i + 1) < ski L i ∧ ¬ (ski L (i + 1) = ski L i ∧ smi L i < smi L (i + 1))) ∧ (prs L n).Perm (prs cs n) := by
  subst hL
  exact ⟨⟨(srt_again h).1, (srt_again h).2, (srt_law h).2.2.2.2⟩, fun i hi => srt_next h hi, (srt_law h).2.2.1⟩

set_option maxRecDepth 100000 in
set_option maxHeartbeats 4000000 in
theorem walk (a0 : Option Addr) (len0 cap0 : Nat) (z0 : Unit) (a1 : Option Addr) (len1 cap1 : Nat) (z1 : Unit) (w : World) (h0 : By w w.heap.size (.slice a0 len0 cap0) len0) (h1 : By w w.heap.size (.slice a1 len1 cap1) len1) :
    Calls Try.prog 21 #[.slice a0 len0 cap0, .slice a1 len1 cap1] w fun e w' => e = .returned (.bool true) ∧ Below w.heap.size w w' := by
  by_cases hn : len0 ≤ 1048576
  · have hlt : decide ((1048576 : Int) < (len0 : Int)) = false := by simp; omega
    by_cases hn1 : len1 ≤ 1048576
    · have hlt1 : decide ((1048576 : Int) < (len1 : Int)) = false := by simp; omega
      have hq : len1 % 12 < 12 := Nat.mod_lt _ (by omega)
      have hmd : (len1 : Int).tmod 12 = ((len1 % 12 : Nat) : Int) := by rw [Int.tmod_eq_emod_of_nonneg (by omega)]; rfl
      have hmd2 : (len1 : Int) % 12 = ((len1 % 12 : Nat) : Int) := rfl
      have hdv : (len1 : Int).tdiv 12 = ((len1 / 12 : Nat) : Int) := by rw [Int.tdiv_eq_ediv_of_nonneg (by omega)]; rfl
      have hdv2 : (len1 : Int) / 12 = ((len1 / 12 : Nat) : Int) := rfl
      have hq2 : len1 / 12 % 2 < 2 := Nat.mod_lt _ (by omega)
      have hmd3 : ((len1 / 12 : Nat) : Int).tmod 2 = ((len1 / 12 % 2 : Nat) : Int) := by rw [Int.tmod_eq_emod_of_nonneg (by omega)]; rfl
      have hmd4 : ((len1 / 12 : Nat) : Int) % 2 = ((len1 / 12 % 2 : Nat) : Int) := rfl
      have hdb : len1 / 12 ≤ 1048576 := by omega
      revert hmd hmd2 hdv hdv2 hmd3 hmd4 hq hq2 hdb
      generalize len1 % 12 = q
      generalize len1 / 12 % 2 = s
      generalize len1 / 12 = d
      intro hmd hmd2 hdv hdv2 hmd3 hmd4 hq hq2 hdb
      go_enter Try.func21, Try.ntmps21
      go_wp2_with fail
      refine (drawSparesSort_any _ len0 w.heap.size w h0 (Nat.le_refl _)).mono ?_
      rintro e w1 ⟨v1, rfl, hd⟩
      obtain ⟨cs, n, b1, s1, hn12⟩ := hd.out
      obtain ⟨L, hL⟩ : ∃ L, srtL cs n = L := ⟨_, rfl⟩
      obtain ⟨N, hN⟩ : ∃ N, srtN cs n = N := ⟨_, rfl⟩
      obtain ⟨F, hF⟩ : ∃ F, spB 10 cs n = F := ⟨_, rfl⟩
      have HE := Lib.hid (And.intro hL (And.intro hN hF))
      have B := Lib.hid b1
      have V1 := Lib.hid s1
      obtain ⟨a1', cap1', rfl, hl1, -⟩ := s1
      have hne : (F != F) = false := by simp
      clear hd b1 hL hN hF
      go_wp2_with fail
      refine (implSort_is _ cs n _ _ V1.out HE.out).mono ?_
      rintro e w2 ⟨v2, rfl, b2, s2⟩
      replace B := Lib.hid (nextW B.out b2.out)
      replace V1 := Lib.hid (V1.out.old b2.out)
      have V2 := s2
      obtain ⟨a2, cap2, rfl, -⟩ := s2.out
      clear b2 s2
      go_wp2_with fail
      refine (specSort_is _ cs n _ _ V1.out HE.out).mono ?_
      rintro e w3 ⟨v3, rfl, b3, s3⟩
      replace B := Lib.hid (nextW B.out b3.out)
      replace V1 := Lib.hid (V1.out.old b3.out)
      replace V2 := Lib.hid (V2.out.old b3.out)
      clear b3
      go_wp2_with fail
      refine (sameSpares_yes _ _ L N N _ _ _ V2.out s3.out).mono ?_
      rintro e w4 ⟨rfl, b4⟩
      replace B := Lib.hid (nextW B.out b4)
      replace V1 := Lib.hid (V1.out.old b4)
      replace V2 := Lib.hid (V2.out.old b4)
      replace s3 := Lib.hid (s3.out.old b4)
      clear b4
      cases F with
      | false =>
        go_wp2_with fail
        refine (sameSpares_yes _ _ L N N _ _ _ V2.out s3.out).mono ?_
        rintro e w5 ⟨rfl, b5⟩
        replace B := Lib.hid (nextW B.out b5)
        clear b5
        go_wp2_with fail
        go_ret
        exact ⟨rfl, B.out⟩
      | true =>
        have HS : Hid (spB 10 cs n = true) := Lib.hid HE.out.2.2
        obtain rfl : n = N := (srt_law HS.out).1.symm.trans HE.out.2.1
        obtain ⟨hag, hnx, hpm⟩ := again HS.out HE.out.1
        have HAG := Lib.hid hag
        have HNX := Lib.hid hnx
        have HPM := Lib.hid hpm
        clear hag hnx hpm
        go_wp2_with fail
        refine (implSort_is _ L n _ _ V2.out HAG.out).mono ?_
        rintro e w5 ⟨v5, rfl, b5, s5⟩
        replace B := Lib.hid (nextW B.out b5.out)
        replace V1 := Lib.hid (V1.out.old b5.out)
        replace V2 := Lib.hid (V2.out.old b5.out)
        obtain ⟨a5, cap5, rfl, -⟩ := s5.out
        clear b5 s3
        go_wp2
        go_loopw [12] (fun i wr => ∃ k : Nat, 1 ≤ k ∧ i = .int .i64 k ∧ Hid (Below w5.heap.size w5 wr)) (fun i _ => n - (intOf i).toNat)
        case atStart => exact ⟨1, by omega, rfl, Below.refl _ _⟩
        case round =>
          obtain ⟨k, hk1, rfl, hB⟩ := hrel
          by_cases hkn : k < n
          · obtain ⟨J, rfl⟩ : ∃ J, k = J + 1 := ⟨k - 1, by omega⟩
            have W2 := Lib.hid (V2.out.old hB.out)
            obtain ⟨_, _, e2, _, _, _, _, hc2⟩ := W2.out
            cases e2
            obtain ⟨b2, off2, rfl, hb2, hc2⟩ := hc2 (by omega)
            have hbw := World.block_lt_of_cell? wr _ (hc2 (J * 2) (by omega))
            obtain ⟨c0, c1⟩ := cellsS hc2 (show J < n by omega) (Below.refl _ _) hbw
            obtain ⟨d0, d1⟩ := cellsS hc2 hkn (Below.refl _ _) hbw
            have x1 : (J : Int) + 1 < (n : Int) := by omega
            have x2 : (J : Int) < (n : Int) := by omega
            have x4 : (0 : Int) ≤ (J : Int) + 1 := by omega
            have x5 : ((J : Int) + 1).toNat = J + 1 := by omega
            have hx := HNX.out J hkn
            clear hc2 W2 hbw
            revert c0 c1 d0 d1 hx
            generalize smi L (J + 1) = p
            generalize ski L (J + 1) = r
            generalize smi L J = p'
            generalize ski L J = r'
            intro c0 c1 d0 d1 hx
            have k0 := cell_regrown c0
            have k1 := cell_regrown c1
            have l0 := cell_regrown d0
            have l1 := cell_regrown d1
            have t1 : decide (r < r') = false := decide_eq_false (by have := hx.1; omega)
            by_cases he : r = r'
            · have t2 : (r == r') = true := by simp [he]
              have t3 : decide (p' < p) = false := decide_eq_false (by have := hx.2; omega)
              clear hx he
              go_wp2
              refine wp_region_quiet_below (by kernel_rfl) (by kernel_rfl) ?_
              repeat (any_goals (first | go_big_quiet_step ((fail)) | quiet_step ((fail))))
              refine wpQuiet_nil ?_
              intro _ hw'
              obtain ⟨⟨dq, osq⟩, hw''⟩ := hw'
              subst hw''
              have bq := below_regrown (wr) dq osq
              revert bq
              generalize Go.Sort.grow (redrawn (wr) dq) osq = wq
              intro bq
              clear c0 c1 d0 d1 k0 k1 l0 l1
              go_wp2
              go_roundw
              case rel => exact ⟨J + 1 + 1, by omega, by go_num, Lib.hid (nextW hB.out bq)⟩
              case measure => simp [intOf]; omega
            · have t2 : (r == r') = false := by simp [he]
              clear hx he
              go_wp2
              refine wp_region_quiet_below (by kernel_rfl) (by kernel_rfl) ?_
              repeat (any_goals (first | go_big_quiet_step ((fail)) | quiet_step ((fail))))
              refine wpQuiet_nil ?_
              intro _ hw'
              obtain ⟨⟨dq, osq⟩, hw''⟩ := hw'
              subst hw''
              have bq := below_regrown (wr) dq osq
              revert bq
              generalize Go.Sort.grow (redrawn (wr) dq) osq = wq
              intro bq
              clear c0 c1 d0 d1 k0 k1 l0 l1
              go_wp2
              go_roundw
              case rel => exact ⟨J + 1 + 1, by omega, by go_num, Lib.hid (nextW hB.out bq)⟩
              case measure => simp [intOf]; omega
          · replace V1 := Lib.hid (V1.out.old hB.out)
            replace V2 := Lib.hid (V2.out.old hB.out)
            replace s5 := Lib.hid (s5.out.old hB.out)
            replace B := Lib.hid (nextW B.out hB.out)
            have hkn2 : (n : Int) ≤ (k : Int) := by omega
            clear hB
            obtain ⟨bb, x0, x1⟩ := box2 wr (1 + (q : Int)) (s : Int) 35
            replace V1 := Lib.hid (V1.out.old bb)
            replace V2 := Lib.hid (V2.out.old bb)
            replace s5 := Lib.hid (s5.out.old bb)
            replace B := Lib.hid (nextW B.out bb)
            have X0 := Lib.hid x0
            have X1 := Lib.hid x1
            clear x0 x1 bb
            obtain ⟨I, hI⟩ : ∃ I, fitI cs n (1 + (q : Int)) (s : Int) = I := ⟨_, rfl⟩
            obtain ⟨J, hJ⟩ : ∃ J, fitI L n (1 + (q : Int)) (s : Int) = J := ⟨_, rfl⟩
            obtain ⟨G, hG⟩ : ∃ G, fitB cs n (1 + (q : Int)) (s : Int) = G := ⟨_, rfl⟩
            obtain ⟨hs1, hs2⟩ := fit_same (nm := 1 + (q : Int)) (nk := (s : Int)) HPM.out HS.out HAG.out.2.2
            have F1 := Lib.hid (And.intro hI hG)
            have F2 := Lib.hid (And.intro hJ (hs1.trans hG))
            rw [hG, hI, hJ] at hs2
            have FS := Lib.hid hs2
            clear hI hJ hG hs1 hs2
            go_upto_region 15 with (fail)
            revert X1
            revert X0
            revert B
            revert V1
            revert V2
            revert s5
            generalize wr.alloc (.cells #[.int .i64 (1 + (q : Int)), .int .i64 (s : Int)] 35) = w6
            intro S5 V2 V1 B X0 X1
            have x0 := X0.out
            have x1 := X1.out
            go_wp2_with fail
            refine (implFit_is _ _ _ cs n _ _ V1.out F1.out).mono ?_
            rintro e w7 ⟨rfl, b⟩
            clear x0 x1
            replace B := Lib.hid (nextW B.out b)
            replace V1 := Lib.hid (V1.out.old b)
            replace V2 := Lib.hid (V2.out.old b)
            replace S5 := Lib.hid (S5.out.old b)
            have x0 := cellB X0.out b
            have x1 := cellB X1.out b
            clear b X0 X1
            go_wp2_with fail
            refine (implFit_is _ _ _ L n _ _ V2.out F2.out).mono ?_
            rintro e w8 ⟨rfl, b⟩
            clear x0 x1
            replace B := Lib.hid (nextW B.out b)
            replace V1 := Lib.hid (V1.out.old b)
            replace V2 := Lib.hid (V2.out.old b)
            replace S5 := Lib.hid (S5.out.old b)
            clear b
            have hnn : ((n : Int) == (n : Int)) = true := by simp
            cases G with
            | false =>
              go_wp2_with fail
              refine wp_region_quiet_below (by kernel_rfl) (by kernel_rfl) ?_
              repeat (any_goals (first | go_big_quiet_step (((go_at_call 46; exact Calls.regrown_of (sameSpares_yes _ _ L n n _ _ _ (S5.out.old (below_regrown _ _ _)) (V2.out.old (below_regrown _ _ _)))))) | quiet_step (((go_at_call 46; exact Calls.regrown_of (sameSpares_yes _ _ L n n _ _ _ (S5.out.old (below_regrown _ _ _)) (V2.out.old (below_regrown _ _ _))))))))
              refine wpQuiet_nil ?_
              intro _ hw'
              obtain ⟨⟨dq, osq⟩, hw''⟩ := hw'
              subst hw''
              have bq := below_regrown (w8) dq osq
              revert bq
              generalize Go.Sort.grow (redrawn (w8) dq) osq = wq
              intro bq
              go_wp2_with fail
              go_ret
              exact ⟨rfl, nextW B.out bq⟩
            | true =>
              obtain ⟨a, b, ⟨ha, hb⟩, ⟨rfl, rfl⟩, e1, e2⟩ := FS.out rfl
              obtain ⟨_, _, e3, _, _, _, _, hc1⟩ := V1.out
              cases e3
              obtain ⟨b1, off1, rfl, hb1, hc1⟩ := hc1 (by omega)
              obtain ⟨c0, c1⟩ := cellsS hc1 ha (Below.refl _ _) (World.block_lt_of_cell? w8 _ (hc1 (a * 2) (by omega)))
              obtain ⟨_, _, e3, _, _, _, _, hc2⟩ := V2.out
              cases e3
              obtain ⟨b2, off2, rfl, hb2, hc2⟩ := hc2 (by omega)
              obtain ⟨d0, d1⟩ := cellsS hc2 hb (Below.refl _ _) (World.block_lt_of_cell? w8 _ (hc2 (b * 2) (by omega)))
              rw [← e1] at d0
              rw [← e2] at d1
              clear hc1 hc2 e1 e2
              revert c0 c1 d0 d1
              generalize smi cs a = x
              generalize ski cs a = y
              intro c0 c1 d0 d1
              have k0 := cell_regrown c0
              have k1 := cell_regrown c1
              have l0 := cell_regrown d0
              have l1 := cell_regrown d1
              have ha2 : (a : Int) < (n : Int) := by omega
              have hb2' : (b : Int) < (n : Int) := by omega
              go_wp2_with fail
              refine wp_region_quiet_below (by kernel_rfl) (by kernel_rfl) ?_
              repeat (any_goals (first | go_big_quiet_step (((go_at_call 46; exact Calls.regrown_of (sameSpares_yes _ _ L n n _ _ _ (S5.out.old (below_regrown _ _ _)) (V2.out.old (below_regrown _ _ _)))))) | quiet_step (((go_at_call 46; exact Calls.regrown_of (sameSpares_yes _ _ L n n _ _ _ (S5.out.old (below_regrown _ _ _)) (V2.out.old (below_regrown _ _ _))))))))
              refine wpQuiet_nil ?_
              intro _ hw'
              obtain ⟨⟨dq, osq⟩, hw''⟩ := hw'
              subst hw''
              have bq := below_regrown (w8) dq osq
              revert bq
              generalize Go.Sort.grow (redrawn (w8) dq) osq = wq
              intro bq
              clear c0 c1 d0 d1 k0 k1 l0 l1
              go_wp2_with fail
              go_ret
              exact ⟨rfl, nextW B.out bq⟩
    · have hlt1 : decide ((1048576 : Int) < (len1 : Int)) = true := by simp; omega
      go_enter Try.func21, Try.ntmps21
      go_wp2
      go_ret
      exact ⟨rfl, Below.refl _ _⟩
  · have hlt : decide ((1048576 : Int) < (len0 : Int)) = true := by simp; omega
    go_enter Try.func21, Try.ntmps21
    go_wp2
    go_ret
    exact ⟨rfl, Below.refl _ _⟩

set_option maxRecDepth 100000 in
theorem lifted (os : Os) (started : os.Started) (H : Type) (enc : TypeId × Value → H) :
    ReturnsInHanded {} Try.checked os 21 .any (Rows.fnSparesSortSpec.pre6 enc Try.prog Try.f21 Rows.fnSparesSortRow.domain false) (Rows.fnSparesSortSpec.post enc Try.prog Try.f21 false true false false) := by
  refine returnsInHanded_of_change (C := Try.checked) own started (by kernel_rfl) Try.func21
    (ChangeSpec.witness6 (enc := enc) (C := Try.checked) false ⟨#[], #[.slice none 0 0, .slice none 0 0], []⟩ 8 (by kernel_rfl) (by kernel_rfl) (by kernel_rfl) (by kernel_rfl)) ?_
  intro W base args ds gs before hval0 hW hcnd _
  have hval : ∀ (j : Nat) t v, Try.f21.params[j]? = some t → args[j]? = some v → Value.okWide Try.prog W .any base t v := hval0
  have hW' := hW
  obtain ⟨p, q, hA0, hV, rfl, hfz, hnd⟩ := hW
  have hA : DataW.TrodAll enc Try.prog W 0 (fun _ => true) true Try.f21.params.toList args.toList ds p := hA0
  rw [Try.params21] at hA hval
  obtain ⟨v0, vs0, d0, ds0, p0, q0, hargs, rfl, rfl, h0, r0⟩ := trodAll_cons hA
  obtain ⟨v1, vs1, d1, ds1, p1, q1, rfl, rfl, rfl, h1, r1⟩ := trodAll_cons r0
  obtain ⟨rfl, rfl, rfl⟩ := trodAll_nil r1
  obtain rfl : args = #[v0, v1] := by cases args; simp_all
  obtain ⟨rfl, rfl⟩ := trodVars_none hV
  obtain ⟨a0, len0, cap0, rfl⟩ := okWide_slice Try.underlying48 (hval 0 48 v0 rfl rfl)
  have k0 := h0
  have lt0 : ∀ x ∈ p0, x.block < W.heap.size := by obtain ⟨m, hm⟩ := k0; exact DataW.trod_lt m _ _ _ hm
  obtain ⟨z0, w0⟩ := by0_of h0
  obtain ⟨a1, len1, cap1, rfl⟩ := okWide_slice Try.underlying48 (hval 1 48 v1 rfl rfl)
  have k1 := h1
  have lt1 : ∀ x ∈ p1, x.block < W.heap.size := by obtain ⟨m, hm⟩ := k1; exact DataW.trod_lt m _ _ _ hm
  obtain ⟨z1, w1⟩ := by0_of h1
  clear hA0 hval0
  refine (walk a0 len0 cap0 z0 a1 len1 cap1 z1 W w0 w1).mono fun e W' ⟨he, bel⟩ => ?_
  subst he
  exact ⟨_, rfl, _, _, _, [], _, [], hW', trodAll_mk1 (shut_bool Try.underlying4 _), (trodAll_cons_mk (Below.trod laidOut (by kernel_rfl) (of_decide_eq_true (by kernel_rfl)) k0 bel lt0) (trodAll_cons_mk (Below.trod laidOut (by kernel_rfl) (of_decide_eq_true (by kernel_rfl)) k1 bel lt1) trodAll_mk0)), rfl, bel.frame _, fun h => by cases h⟩

theorem over : Rows.fnSparesSortRow.holds Try.pinned (OpenSpec.ofChange Rows.fnSparesSortSpec) :=
  OpenClaim.holds_of_wide 21 Try.f21 rfl rfl rfl rfl rfl rfl rfl ⟨rfl, rfl, rfl, rfl, rfl⟩ rfl rfl rfl rfl rfl (by kernel_rfl) Try.func21 (facts_of signs (by kernel_rfl))
    (of_decide_eq_true (by kernel_rfl)) (by unfold Func.isWrapper; first | (rw [if_pos (by decide +kernel)]; kernel_rfl) | (rw [if_neg (by decide +kernel)]; exact ⟨rfl, rfl⟩))
    (fun os started H enc _ => lifted os started H enc)

theorem proved : Rows.FnSparesSortSaid := over
#print axioms proved

end Go.Proofs.Ythbkimojbbkeiaa.fnSparesSort
