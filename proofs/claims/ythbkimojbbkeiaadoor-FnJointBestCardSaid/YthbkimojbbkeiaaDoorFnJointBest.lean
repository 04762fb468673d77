/- FnJointBest: the best joint is just long enough. The tables of math/bits read as the program's text lays them. -/
import Derived.Test.YthbkimojbbkeiaaDoorLawJ
import Derived.Test.YthbkimojbbkeiaaDoorLawD
import Derived.Test.YthbkimojbbkeiaaDoorJbJ
import Derived.Test.YthbkimojbbkeiaaDoorJbD
import Derived.Test.YthbkimojbbkeiaaDoorSame
namespace Go.Proofs.YthbkimojbbkeiaaDoor.fnJointBest
open Go.ChangeShapes Go.WideShapes Go.ChangeAt Go.RowKit
set_option linter.unusedVariables false

theorem implFewest_is {J : Int} (v : Value) (kind miles : Int) (cs : List Int) (n hi : Nat) (w : World) (hv : SlF 2 w hi v cs n) (hT : Tb w) (h : jfI cs n kind miles = J) :
    Calls Tryd.prog 9 #[v, .int .i64 kind, .int .i64 miles] w fun e w' => e = .returned (.int .i64 J) ∧ Below w.heap.size w w' := h ▸ implJointFewest_b v kind miles cs n hi w hv hT
theorem impl_is {L : List Int} {F : Bool} (v1 : Value) (kind miles : Int) (cs : List Int) (n h1 : Nat) (w : World) (hv1 : SlF 2 w h1 v1 cs n) (hT : Tb w) (h : jbL cs n kind miles = L ∧ jbB cs n kind miles = F) :
    Calls Tryd.prog 18 #[v1, .int .i64 kind, .int .i64 miles] w fun e w' => ∃ v', e = .returned (.tuple #[v', .bool F]) ∧ Below w.heap.size w w' ∧ Sl w' w'.heap.size v' L := by
  obtain ⟨rfl, rfl⟩ := h
  refine (implJointBest_b v1 kind miles cs n h1 w hv1 hT).mono ?_
  rintro e w' ⟨v', rfl, b, o⟩
  exact ⟨v', rfl, b.out, o.out.sl⟩
theorem spec_is {L : List Int} {F : Bool} (v1 : Value) (kind miles : Int) (cs : List Int) (n h1 : Nat) (w : World) (hv1 : SlF 2 w h1 v1 cs n) (h : jbL cs n kind miles = L ∧ jbB cs n kind miles = F) :
    Calls Tryd.prog 19 #[v1, .int .i64 kind, .int .i64 miles] w fun e w' => ∃ v', e = .returned (.tuple #[v', .bool F]) ∧ Below w.heap.size w w' ∧ Sl w' w'.heap.size v' L := by
  obtain ⟨rfl, rfl⟩ := h
  refine (specJointBest_b v1 kind miles cs n h1 w hv1).mono ?_
  rintro e w' ⟨v', rfl, b, o⟩
  refine ⟨v', rfl, b.out, (o.out.wr ?_).sl⟩
  have := hv1.len.2
  have : (jbL cs n kind miles).length ≤ n := bits_10
  omega
theorem same_b (va vb : Value) (xs : List Int) (ha hb : Nat) (w : World) (h1 : Sl w ha va xs) (h2 : Sl w hb vb xs) :
    Calls Tryd.prog 20 #[va, vb] w fun e w' => e = .returned (.bool true) ∧ Below w.heap.size w w' := (sameInts_any va vb xs xs ha hb w h1 h2).mono (by
  rintro e _ ⟨rfl, d, rfl⟩
  exact ⟨by rw [decide_eq_true rfl], below_drewN (Below.refl _ _) d⟩)
/-- What the walk asks of the best joint. -/
theorem bestOf {cs L : List Int} {n : Nat} {kind m : Int} (h : jbL cs n kind m = L ∧ jbB cs n kind m = true) :
    (spTo cs n ∧ n ≤ 10) ∧ L.length ≤ 10 ∧ (∀ x, x < L.length → (0 ≤ gi L x ∧ gi L x < n) ∧ ski cs (gi L x).toNat = kind ∧ (∀ y, y < x → gi L y < gi L x)) ∧
    m ≤ jsTo cs L L.length ∧ jsTo cs L L.length - mnTo cs L L.length < m ∧ jfI cs n kind m = (L.length : Int) - 1 := by
  obtain ⟨rfl, h2⟩ := h
  have hbest : bestJ cs n kind m ≠ 0 := by unfold jbB at h2; exact of_decide_eq_true h2
  obtain ⟨hc, -⟩ := best_is hbest
  obtain ⟨g1, g2, g3⟩ := jb_law hbest
  refine ⟨hc, Nat.le_trans bits_10 hc.2, g1, g2, g3, ?_⟩
  unfold jfI
  rw [if_neg hbest]

set_option maxRecDepth 100000 in
set_option maxHeartbeats 4000000 in
theorem walk (a0 : Option Addr) (len0 cap0 : Nat) (z0 : Unit) (w : World) (h0 : By w w.heap.size (.slice a0 len0 cap0) len0) (hT : Tb w) :
    Calls Tryd.prog 6 #[.slice a0 len0 cap0] w fun e w' => e = .returned (.bool true) ∧ Below w.heap.size w w' := by
  by_cases hn : len0 ≤ 1048576
  · have hlt : decide ((1048576 : Int) < (len0 : Int)) = false := by simp; omega
    have T := Lib.hid hT
    clear hT
    go_enter Tryd.func6, Tryd.ntmps6
    go_wp2_with fail
    refine (drawJointBest_any _ len0 w.heap.size w h0 (Nat.le_refl _)).mono ?_
    rintro e w1 ⟨v1, kind, m, rfl, hd⟩
    obtain ⟨cs, n, b1, s1, hn12, hk, hm⟩ := hd.out
    obtain ⟨L, hL⟩ : ∃ L, jbL cs n kind m = L := ⟨_, rfl⟩
    obtain ⟨F, hF⟩ : ∃ F, jbB cs n kind m = F := ⟨_, rfl⟩
    have HE := Lib.hid (And.intro hL hF)
    have B := Lib.hid b1
    have V := Lib.hid s1
    replace T := Lib.hid (T.out.old b1)
    obtain ⟨a1, cap1, rfl, hl1, -⟩ := s1
    have hne : (F != F) = false := by simp
    clear hd b1 hL hF
    go_wp2_with fail
    refine (impl_is _ kind m cs n _ _ V.out T.out HE.out).mono ?_
    rintro e w2 ⟨v2, rfl, b, s2⟩
    replace B := Lib.hid (nextW B.out b)
    replace V := Lib.hid (V.out.old b)
    replace T := Lib.hid (T.out.old b)
    have S2 := Lib.hid s2
    obtain ⟨la, ln, lc, rfl, hln, -⟩ := s2
    have HLN := Lib.hid hln
    clear b hln
    go_wp2_with fail
    refine (spec_is _ kind m cs n _ _ V.out HE.out).mono ?_
    rintro e w3 ⟨v3, rfl, b, s3⟩
    replace B := Lib.hid (nextW B.out b)
    replace V := Lib.hid (V.out.old b)
    replace T := Lib.hid (T.out.old b)
    replace S2 := Lib.hid (S2.out.old b)
    have S3 := Lib.hid s3
    clear b s3
    go_wp2_with fail
    refine (same_b _ _ L _ _ _ S2.out S3.out).mono ?_
    rintro e w4 ⟨rfl, b⟩
    replace B := Lib.hid (nextW B.out b)
    replace V := Lib.hid (V.out.old b)
    replace T := Lib.hid (T.out.old b)
    replace S2 := Lib.hid (S2.out.old b)
    replace S3 := Lib.hid (S3.out.old b)
    clear b
    cases F with
    | false =>
      go_wp2_with fail
      refine (same_b _ _ L _ _ _ S2.out S3.out).mono ?_
      rintro e w5 ⟨rfl, b⟩
      replace B := Lib.hid (nextW B.out b)
      clear b
      go_wp2_with fail
      go_ret
      exact ⟨rfl, B.out⟩
    | true =>
      obtain ⟨⟨hc, hn10⟩, hl10, g1, g2, g3, g4⟩ := bestOf HE.out
      have HC := Lib.hid hc
      have G1 := Lib.hid g1
      have hln : L.length = ln := HLN.out
      rw [hln] at hl10 g2 g3 g4
      have G2 := Lib.hid g2
      have G3 := Lib.hid g3
      have G4 := Lib.hid g4
      have HIX : Hid (∀ x, x < ln → 0 ≤ gi L x ∧ gi L x < n) := Lib.hid fun x hx => (g1 x (by omega)).1
      clear hc g1 g2 g3 g4 S3
      go_wp2
      go_loopw [10, 11, 12] (fun s t i wr => ∃ k : Nat, k ≤ ln ∧ i = .int .i64 k ∧ s = .int .i64 (jsTo cs L k) ∧ t = .int .i64 (mnTo cs L k) ∧ Hid (Below w4.heap.size w4 wr)) (fun _ _ i _ => ln - (intOf i).toNat)
      case atStart => exact ⟨0, Nat.zero_le _, rfl, rfl, rfl, Below.refl _ _⟩
      case round =>
        obtain ⟨k, hk, rfl, rfl, rfl, hB⟩ := hrel
        have hb1 := jsTo_bd HC.out (l := L) (fun x hx => HIX.out x (by omega)) (show k ≤ L.length by omega)
        have hb2 := mnTo_bd (cs := cs) (l := L) (k := k) (fun x hx => (HC.out (gi L x).toNat (by have := HIX.out x (by omega); omega)).1.1)
        by_cases hlt2 : k < ln
        · obtain ⟨hx1, hx2, hx3⟩ := G1.out k (by omega)
          obtain ⟨K, hK⟩ := Int.eq_ofNat_of_zero_le hx1.1
          have hKn : K < n := by omega
          have hKn2 : (K : Int) < (n : Int) := by omega
          have HKT : Hid ((gi L k).toNat = K) := Lib.hid (by rw [hK]; omega)
          rw [HKT.out] at hx2
          have VR := Lib.hid (V.out.old hB.out)
          have SR := Lib.hid (S2.out.old hB.out)
          obtain ⟨_, _, e2, _, _, _, _, hcv⟩ := VR.out
          cases e2
          obtain ⟨b, off, rfl, hbh, hcv⟩ := hcv (by omega)
          obtain ⟨c0, c1⟩ := cellsS hcv hKn (Below.refl _ _) (World.block_lt_of_cell? wr _ (hcv (K * 2) (by omega)))
          obtain ⟨_, _, _, e2, _, _, _, _, hcl⟩ := SR.out
          cases e2
          obtain ⟨b2, off2, rfl, hbh2, hcl⟩ := hcl (by omega)
          have d0 := hcl k hlt2
          rw [hK] at d0
          have hkl : (k : Int) < (ln : Int) := by omega
          have hsp := (HC.out K hKn).1
          have hw : IntKind.i64.wrap (jsTo cs L k + smi cs K) = jsTo cs L k + smi cs K := IntWalk.i64_in _ (by omega)
          have HN : Hid (jsTo cs L (k + 1) = jsTo cs L k + smi cs K ∧ mnTo cs L (k + 1) = min (mnTo cs L k) (smi cs K)) := Lib.hid (by rw [jsTo, mnTo, HKT.out]; exact ⟨rfl, rfl⟩)
          have t1 : (ski cs K != kind) = false := by simp [hx2]
          have p0 := cell_regrown c0
          have p1 := cell_regrown c1
          have q0 := cell_regrown d0
          have step : ∀ (wq : World), Below wr.heap.size wr wq → wq.cell? ⟨b, off + K * 2, none⟩ = some (.int .i64 (smi cs K)) ∧ wq.cell? ⟨b2, off2 + k, none⟩ = some (.int .i64 (K : Int)) ∧ Hid (Below w4.heap.size w4 wq) := fun wq h => ⟨cellB c0 h, cellB d0 h, Lib.hid (nextW hB.out h)⟩
          have STEP := Lib.hid step
          clear step
          obtain ⟨S, hS⟩ : ∃ S, jsTo cs L k = S := ⟨_, rfl⟩
          obtain ⟨N, hN⟩ : ∃ N, mnTo cs L k = N := ⟨_, rfl⟩
          rw [hS, hN] at HN
          rw [hS] at hw hb1
          rw [hN] at hb2
          rw [hS, hN]
          clear hS hN hx1 hx2 hcv VR SR
          by_cases hk0 : k = 0
          · subst hk0
            clear hcl hx3 hK q0
            replace d0 : wr.cell? ⟨b2, off2, none⟩ = some (.int .i64 (K : Int)) := d0
            have q0 := cell_regrown d0
            have hl0 : (0 : Int) < (ln : Int) := by omega
            have hl0n : 0 < ln := by omega
            go_wp2
            refine wp_region_quiet_below (by kernel_rfl) (by kernel_rfl) ?_
            repeat (any_goals (first | go_big_quiet_step ((fail)) | quiet_step ((fail))))
            refine wpQuiet_nil ?_
            intro _ hw'
            obtain ⟨⟨dq, osq⟩, hw''⟩ := hw'
            subst hw''
            have bq := below_regrown (wr) dq osq
            revert bq
            generalize Go.Sort.grow (redrawn (wr) dq) osq = wq
            intro bq
            obtain ⟨c2, d2, B2⟩ := STEP.out _ bq
            replace d2 : wq.cell? ⟨b2, off2, none⟩ = some (.int .i64 (K : Int)) := d2
            clear c0 c1 d0 p0 p1 q0 bq STEP
            by_cases hmn : smi cs K < N
            · have HM : Hid (min N (smi cs K) = smi cs K) := Lib.hid (by omega)
              go_wp2
              go_roundw
              case rel => exact ⟨0 + 1, by omega, by go_num, by rw [HN.out.1], by rw [HN.out.2, HM.out], B2⟩
              case measure => simp [intOf]; omega
            · have HM : Hid (min N (smi cs K) = N) := Lib.hid (by omega)
              go_wp2
              go_roundw
              case rel => exact ⟨0 + 1, by omega, by go_num, by rw [HN.out.1], by rw [HN.out.2, HM.out], B2⟩
              case measure => simp [intOf]; omega
          · obtain ⟨j, rfl⟩ : ∃ j, k = j + 1 := ⟨k - 1, by omega⟩
            have e0 := hcl j (by omega)
            have hlt3 := hx3 j (by omega)
            rw [hK] at hlt3
            clear hcl hx3 hK hk0
            revert e0 hlt3
            generalize gi L j = y
            intro e0 hlt3
            have r0 := cell_regrown e0
            have x1 : (j : Int) + 1 < (ln : Int) := by omega
            have x2 : (j : Int) < (ln : Int) := by omega
            have x4 : (0 : Int) ≤ (j : Int) + 1 := by omega
            have x5 : ((j : Int) + 1).toNat = j + 1 := by omega
            have x6 : decide ((0 : Int) < (j : Int) + 1) = true := decide_eq_true (by omega)
            have x7 : (0 : Int) < (j : Int) + 1 := by omega
            have x8 : decide ((K : Int) ≤ y) = false := decide_eq_false (by omega)
            have x9 : ¬ (K : Int) ≤ y := by omega
            go_wp2
            refine wp_region_quiet_below (by kernel_rfl) (by kernel_rfl) ?_
            repeat (any_goals (first | go_big_quiet_step ((fail)) | quiet_step ((fail))))
            refine wpQuiet_nil ?_
            intro _ hw'
            obtain ⟨⟨dq, osq⟩, hw''⟩ := hw'
            subst hw''
            have bq := below_regrown (wr) dq osq
            revert bq
            generalize Go.Sort.grow (redrawn (wr) dq) osq = wq
            intro bq
            obtain ⟨c2, d2, B2⟩ := STEP.out _ bq
            clear c0 c1 d0 e0 p0 p1 q0 r0 bq STEP
            by_cases hmn : smi cs K < N
            · have HM : Hid (min N (smi cs K) = smi cs K) := Lib.hid (by omega)
              go_wp2
              go_roundw
              case rel => exact ⟨j + 1 + 1, by omega, by go_num, by rw [HN.out.1], by rw [HN.out.2, HM.out], B2⟩
              case measure => simp [intOf]; omega
            · have HM : Hid (min N (smi cs K) = N) := Lib.hid (by omega)
              go_wp2
              go_roundw
              case rel => exact ⟨j + 1 + 1, by omega, by go_num, by rw [HN.out.1], by rw [HN.out.2, HM.out], B2⟩
              case measure => simp [intOf]; omega
        · obtain rfl : ln = k := by omega
          have g2 := G2.out
          have g3 := G3.out
          have VR := Lib.hid (V.out.old hB.out)
          have TR := Lib.hid (T.out.old hB.out)
          obtain ⟨S, hS⟩ : ∃ S, jsTo cs L ln = S := ⟨_, rfl⟩
          obtain ⟨N, hN⟩ : ∃ N, mnTo cs L ln = N := ⟨_, rfl⟩
          rw [hS] at g2 g3 hb1
          rw [hN] at g3 hb2
          rw [hS, hN]
          have s1 : decide (m ≤ S) = true := decide_eq_true g2
          have s2 : decide (S - N < m) = true := decide_eq_true g3
          have hw : IntKind.i64.wrap (S - N) = S - N := IntWalk.i64_in _ (by omega)
          have hw2 : IntKind.i64.wrap ((ln : Int) - 1 + 1) = (ln : Int) := by rw [show (ln : Int) - 1 + 1 = (ln : Int) by omega]; exact IntWalk.i64_in _ (by omega)
          have hee : ((ln : Int) == (ln : Int)) = true := by simp
          have B2 := Lib.hid (nextW B.out hB.out)
          clear hS hN g2 g3 B hB
          go_wp2_with fail
          refine (implFewest_is _ kind m cs n _ _ VR.out TR.out G4.out).mono ?_
          rintro e w6 ⟨rfl, b⟩
          have B3 := Lib.hid (nextW B2.out b)
          clear b
          go_wp2_with fail
          go_ret
          exact ⟨rfl, B3.out⟩
  · have hlt : decide ((1048576 : Int) < (len0 : Int)) = true := by simp; omega
    go_enter Tryd.func6, Tryd.ntmps6
    go_wp2
    go_ret
    exact ⟨rfl, Below.refl _ _⟩

set_option maxRecDepth 100000 in
theorem lifted (os : Os) (started : os.Started) (H : Type) (enc : TypeId × Value → H) :
    ReturnsInHanded {} Tryd.checked os 6 .any (fun w args => (Rows.fnJointBestSpec.pre enc Tryd.prog Tryd.f6 [] false w args ∧ laidMetH Tryd.prog laidJ w) ∧ sizedMet enc Tryd.prog Tryd.f6 (OpenSpec.ofChange Rows.fnJointBestSpec) false w args) (Rows.fnJointBestSpec.post enc Tryd.prog Tryd.f6 false true false false) := by
  refine returnsInHanded_of_change_and (C := Tryd.checked) (X := fun w _ => laidMetH Tryd.prog laidJ w) (fun _ _ _ hh h => h.of_heap hh) own started (by kernel_rfl) Tryd.func6
    (ChangeSpec.witness_shaped (enc := enc) (C := Tryd.checked) (os := os) (X := fun w _ => laidMetH Tryd.prog laidJ w) false (World.doorLaid Tryd.prog 19 os) #[.slice none 0 0] 8 rfl (World.shaped_of_RefB (by kernel_rfl) (by kernel_rfl)) (by kernel_rfl) (by kernel_rfl) (by kernel_rfl) (door_met os _)) ?_
  intro W base args ds gs before hval0 hW _ _ hL _
  have hval : ∀ (j : Nat) t v, Tryd.f6.params[j]? = some t → args[j]? = some v → Value.okWide Tryd.prog W .any base t v := hval0
  have hW' := hW
  obtain ⟨p, q, hA0, hV, rfl, hfz, hnd⟩ := hW
  have hA : DataW.TrodAll enc Tryd.prog W 0 (fun _ => true) true Tryd.f6.params.toList args.toList ds p := hA0
  rw [Tryd.params6] at hA hval
  obtain ⟨v0, vs0, d0, ds0, p0, q0, hargs, rfl, rfl, h0, r0⟩ := trodAll_cons hA
  obtain ⟨rfl, rfl, rfl⟩ := trodAll_nil r0
  obtain rfl : args = #[v0] := by cases args; simp_all
  obtain ⟨rfl, rfl⟩ := trodVars_none hV
  obtain ⟨a0, len0, cap0, rfl⟩ := okWide_slice Tryd.underlying22 (hval 0 22 v0 rfl rfl)
  have k0 := h0
  have lt0 : ∀ x ∈ p0, x.block < W.heap.size := by obtain ⟨m, hm⟩ := k0; exact DataW.trod_lt m _ _ _ hm
  obtain ⟨z0, w0⟩ := by0_of h0
  clear hA0 hval0
  refine (walk a0 len0 cap0 z0 W w0 (tb_of hL)).mono fun e W' ⟨he, bel⟩ => ?_
  subst he
  exact ⟨_, rfl, _, _, _, [], _, [], hW', trodAll_mk1 (shut_bool Tryd.underlying4 _), (trodAll_cons_mk (Below.trod laidOut (by kernel_rfl) (of_decide_eq_true (by kernel_rfl)) k0 bel lt0) trodAll_mk0), rfl, bel.frame _, fun h => by cases h⟩

theorem over : Rows.fnJointBestRow.holds Tryd.pinned (OpenSpec.ofChange Rows.fnJointBestSpec) :=
  OpenClaim.holds_of_wide 6 Tryd.f6 rfl rfl rfl rfl rfl rfl rfl ⟨rfl, rfl, rfl, rfl, rfl⟩ rfl rfl rfl rfl rfl (by kernel_rfl) Tryd.func6 (facts_of signs (by kernel_rfl))
    (of_decide_eq_true (by kernel_rfl)) (by unfold Func.isWrapper; first | (rw [if_pos (by decide +kernel)]; kernel_rfl) | (rw [if_neg (by decide +kernel)]; exact ⟨rfl, rfl⟩))
    (fun os started H enc _ => lifted os started H enc)

theorem proved : Rows.FnJointBestCardSaid :=
  Claim7.holds_tied_plain_at .later [] [.data, .data] true (true, "63c63b5b0d609edcfb30ebf556ca6689c936c8326ac42e96486b87f7987fc2ce") false
    over (fun _ h => by cases h) (by kernel_rfl) (fun _ h => by cases h) fnJointBest_row_tie rfl ⟨rfl, rfl⟩ (by kernel_rfl) rfl
    (fun f fn hf hfn => by
      obtain rfl : f = 6 := Option.some.inj ((show Tryd.prog.funcNamed "loop.example/cableship/laws.FnJointBest" = some 6 by kernel_rfl).symm.trans hf) |>.symm
      obtain rfl : fn = Tryd.f6 := (Option.some.inj (Tryd.func6.symm.trans hfn)).symm
      exact ⟨by kernel_rfl, fun j t ht => by
        rw [Tryd.params6] at ht
        have hm : t ∈ [22] := by simpa using Array.mem_of_getElem? ht
        have hall : ([22].all fun u => !Tryd.prog.wantsStandIn u) = true := by kernel_rfl
        exact (show Tryd.prog.wantsStandIn t = false by simpa using List.all_eq_true.1 hall t hm)⟩)
    (by kernel_rfl)
#print axioms proved

end Go.Proofs.YthbkimojbbkeiaaDoor.fnJointBest
