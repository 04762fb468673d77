/- FnJointLongest: as few splices as the longest spares need. The tables of math/bits read as the program's text lays them. -/
import Derived.Test.YthbkimojbbkeiaaDoorLawJ
import Derived.Test.YthbkimojbbkeiaaDoorLawD
import Derived.Test.YthbkimojbbkeiaaDoorJbJ
import Derived.Test.YthbkimojbbkeiaaDoorJbD
import Derived.Test.YthbkimojbbkeiaaDoorSoH
import Derived.Test.YthbkimojbbkeiaaDoorJtLong
namespace Go.Proofs.YthbkimojbbkeiaaDoor.fnJointLongest
open Go.ChangeShapes Go.WideShapes Go.ChangeAt Go.RowKit
set_option linter.unusedVariables false

theorem implFewest_is {J : Int} (v : Value) (kind miles : Int) (cs : List Int) (n hi : Nat) (w : World) (hv : SlF 2 w hi v cs n) (hT : Tb w) (h : jfI cs n kind miles = J) :
    Calls Tryd.prog 9 #[v, .int .i64 kind, .int .i64 miles] w fun e w' => e = .returned (.int .i64 J) ∧ Below w.heap.size w w' := h ▸ implJointFewest_b v kind miles cs n hi w hv hT
theorem specFewest_is {J : Int} (v : Value) (kind miles : Int) (cs : List Int) (n hi : Nat) (w : World) (hv : SlF 2 w hi v cs n) (h : jfI cs n kind miles = J) :
    Calls Tryd.prog 10 #[v, .int .i64 kind, .int .i64 miles] w fun e w' => e = .returned (.int .i64 J) ∧ Below w.heap.size w w' := h ▸ specJointFewest_b v kind miles cs n hi w hv
theorem implSort_is {L : List Int} {N : Nat} {F : Bool} (v : Value) (cs : List Int) (n hi : Nat) (w : World) (hv : SlF 2 w hi v cs n) (h : srtL cs n = L ∧ srtN cs n = N ∧ spB 10 cs n = F) :
    Calls Tryd.prog 13 #[v] w fun e w' => ∃ v', e = .returned (.tuple #[v', .bool F]) ∧ Hid (Below w.heap.size w w') ∧ Hid (SlF 2 w' w'.heap.size v' L N) := by
  obtain ⟨rfl, rfl, rfl⟩ := h
  refine (implSparesSort_b v cs n hi w hv).mono ?_
  rintro e w' ⟨v', rfl, b, s⟩
  exact ⟨v', rfl, b, s.out.sl⟩
theorem lg_bd {ds : List Int} {kind : Int} {out : Nat} : ∀ {i : Nat}, spTo ds i → 0 ≤ (lgTo ds kind out i).1 ∧ (lgTo ds kind out i).1 ≤ 50 * i ∧ (lgTo ds kind out i).2 ≤ i
  | 0, _ => by simp [lgTo]
  | i + 1, h => by
    have h1 := lg_bd (kind := kind) (out := out) (spTo_mono h (Nat.le_succ i))
    have h2 := (h i (by omega)).1
    rw [lgTo]
    split
    · simp only; omega
    · omega
/-- What the walk asks of the best joint. -/
theorem longest {cs : List Int} {n : Nat} {kind m J : Int} (hJ : jfI cs n kind m = J) (h0 : 0 ≤ J) : ∃ O : Nat, J = (O : Int) ∧ spB 10 cs n = true ∧ srtN cs n = n ∧ spTo (srtL cs n) n ∧
    (∀ i, i ≤ n → (lgTo (srtL cs n) kind O i).2 = O → (lgTo (srtL cs n) kind O i).1 < m) ∧ m ≤ (lgTo (srtL cs n) kind O n).1 ∧ (lgTo (srtL cs n) kind O n).2 = O + 1 := by
  have hbest : bestJ cs n kind m ≠ 0 := fun e => by
    unfold jfI at hJ
    rw [if_pos e] at hJ
    omega
  obtain ⟨O, rfl⟩ := Int.eq_ofNat_of_zero_le h0
  obtain ⟨⟨hc, hn⟩, -⟩ := best_is hbest
  have hsp : spB 10 cs n = true := spB_true.2 ⟨by omega, hc⟩
  have hl : (jbL cs n kind m).length = O + 1 := by
    unfold jfI at hJ
    rw [if_neg hbest] at hJ
    omega
  obtain ⟨h1, h2, h3⟩ := lg_law hbest hl
  have hp : spTo (srtL cs n) n := by
    have e : srtL cs n = fl (srtTo (prs cs n) 200) := by unfold srtL; rw [if_pos hsp]
    have hq := prs_fl (srtTo (prs cs n) 200)
    rw [(srtTo_perm (prs_ok hc)).length_eq, prs_len, ← e] at hq
    exact prs_of_ok fun p hpp => prs_ok hc p ((hq ▸ srtTo_perm (prs_ok hc)).mem_iff.1 hpp)
  exact ⟨O, rfl, hsp, by unfold srtN; rw [if_pos hsp], hp, h1, h2, h3⟩

set_option maxRecDepth 100000 in
set_option maxHeartbeats 4000000 in
theorem walk (a0 : Option Addr) (len0 cap0 : Nat) (z0 : Unit) (w : World) (h0 : By w w.heap.size (.slice a0 len0 cap0) len0) (hT : Tb w) :
    Calls Tryd.prog 4 #[.slice a0 len0 cap0] w fun e w' => e = .returned (.bool true) ∧ Below w.heap.size w w' := by
  by_cases hn : len0 ≤ 1048576
  · have hlt : decide ((1048576 : Int) < (len0 : Int)) = false := by simp; omega
    have T := Lib.hid hT
    clear hT
    go_enter Tryd.func4, Tryd.ntmps4
    go_wp2_with fail
    refine (drawJointFewest_any _ len0 w.heap.size w h0 (Nat.le_refl _)).mono ?_
    rintro e w1 ⟨v1, kind, m, rfl, hd⟩
    obtain ⟨cs, n, b1, s1, hn12, hk, hm⟩ := hd.out
    obtain ⟨J, hJ⟩ : ∃ J, jfI cs n kind m = J := ⟨_, rfl⟩
    have HJ := Lib.hid hJ
    have B := Lib.hid b1
    have V := Lib.hid s1
    replace T := Lib.hid (T.out.old b1)
    obtain ⟨a1, cap1, rfl, hl1, -⟩ := s1
    have hne : (J != J) = false := by simp
    clear hd b1 hJ
    go_wp2_with fail
    refine (implFewest_is _ kind m cs n _ _ V.out T.out HJ.out).mono ?_
    rintro e w2 ⟨rfl, b⟩
    replace B := Lib.hid (nextW B.out b)
    replace V := Lib.hid (V.out.old b)
    clear b T
    go_wp2_with fail
    refine (specFewest_is _ kind m cs n _ _ V.out HJ.out).mono ?_
    rintro e w3 ⟨rfl, b⟩
    replace B := Lib.hid (nextW B.out b)
    replace V := Lib.hid (V.out.old b)
    clear b
    by_cases hJ0 : J < 0
    · have t1 : decide (J < 0) = true := decide_eq_true hJ0
      have hee : (J == J) = true := by simp
      go_wp2_with fail
      go_ret
      exact ⟨rfl, B.out⟩
    · obtain ⟨O, rfl, hsp, hN, hds, g1, g2, g3⟩ := longest HJ.out (by omega)
      have t1 : decide ((O : Int) < 0) = false := decide_eq_false hJ0
      obtain ⟨ds, hds2⟩ : ∃ ds, srtL cs n = ds := ⟨_, rfl⟩
      rw [hds2] at hds g1 g2 g3
      have HE := Lib.hid (And.intro hds2 (And.intro hN hsp))
      have HD := Lib.hid hds
      have G1 := Lib.hid g1
      have G2 := Lib.hid g2
      have G3 := Lib.hid g3
      clear hds2 hN hsp hds g1 g2 g3 hJ0
      have hn10 : n ≤ 10 := by have := (spB_true.1 HE.out.2.2).1; omega
      have hO10 : O + 1 ≤ n := by have := (lg_bd (kind := kind) (out := O) HD.out).2.2; rw [G3.out] at this; exact this
      go_wp2_with fail
      refine (implSort_is _ cs n _ _ V.out HE.out).mono ?_
      rintro e w4 ⟨v4, rfl, b4, s4⟩
      replace B := Lib.hid (nextW B.out b4.out)
      obtain ⟨a4, cap4, rfl, -, -, -, -, hc4⟩ := s4.out
      have HC := Lib.hid hc4
      clear b4 s4 hc4 V
      go_wp2
      go_loop [10, 11, 12] (fun s t i => ∃ k : Nat, k ≤ n ∧ i = .int .i64 k ∧ s = .int .i64 (lgTo ds kind O k).1 ∧ t = .int .i64 ((lgTo ds kind O k).2 : Int)) (fun _ _ i => n - (intOf i).toNat)
      case atStart => exact ⟨0, Nat.zero_le _, rfl, rfl, rfl⟩
      case round =>
        obtain ⟨k, hk, rfl, rfl, rfl⟩ := hrel
        have hbd := lg_bd (kind := kind) (out := O) (spTo_mono HD.out hk)
        by_cases hlt2 : k < n
        · obtain ⟨b, off, rfl, hbh, hc⟩ := HC.out (by omega)
          obtain ⟨c0, c1⟩ := cellsS hc hlt2 (Below.refl _ _) (World.block_lt_of_cell? w4 _ (hc (k * 2) (by omega)))
          have hsp := (HD.out k hlt2).1
          have hq := G1.out k hk
          have HN : Hid (lgTo ds kind O (k + 1) = if ski ds k = kind ∧ (lgTo ds kind O k).2 ≤ O then ((lgTo ds kind O k).1 + smi ds k, (lgTo ds kind O k).2 + 1) else lgTo ds kind O k) := Lib.hid rfl
          clear hc
          obtain ⟨S, tk, hST⟩ : ∃ S tk, lgTo ds kind O k = (S, tk) := ⟨_, _, rfl⟩
          rw [hST] at HN hbd hq ⊢
          clear hST
          simp only at hbd hq ⊢
          by_cases he : ski ds k = kind
          · have s1 : (ski ds k == kind) = true := by simp [he]
            by_cases hl : tk ≤ O
            · have s2 : decide ((tk : Int) ≤ (O : Int)) = true := decide_eq_true (by omega)
              have HN2 : Hid (lgTo ds kind O (k + 1) = (S + smi ds k, tk + 1)) := Lib.hid (by rw [HN.out, if_pos ⟨he, hl⟩])
              have hw : IntKind.i64.wrap (S + smi ds k) = S + smi ds k := IntWalk.i64_in _ (by omega)
              by_cases hto : tk = O
              · have s3 : ((tk : Int) == (O : Int)) = true := by rw [beq_iff_eq]; omega
                have s4 : decide (m ≤ S) = false := decide_eq_false (by have := hq hto; omega)
                clear he hq hto HN
                go_wp2
                go_round
                case rel => exact ⟨k + 1, by omega, by go_num, by rw [HN2.out], by rw [HN2.out]; go_num⟩
                case measure => simp [intOf]; omega
              · have s3 : ((tk : Int) == (O : Int)) = false := by rw [beq_eq_false_iff_ne]; omega
                clear he hq hto HN
                go_wp2
                go_round
                case rel => exact ⟨k + 1, by omega, by go_num, by rw [HN2.out], by rw [HN2.out]; go_num⟩
                case measure => simp [intOf]; omega
            · have s2 : decide ((tk : Int) ≤ (O : Int)) = false := decide_eq_false (by omega)
              have s5 : decide (tk ≤ O) = false := decide_eq_false hl
              have HN2 : Hid (lgTo ds kind O (k + 1) = (S, tk)) := Lib.hid (by rw [HN.out, if_neg (fun h => hl h.2)])
              clear he hq hl HN
              go_wp2
              go_round
              case rel => exact ⟨k + 1, by omega, by go_num, by rw [HN2.out], by rw [HN2.out]⟩
              case measure => simp [intOf]; omega
          · have s1 : (ski ds k == kind) = false := by simp [he]
            have HN2 : Hid (lgTo ds kind O (k + 1) = (S, tk)) := Lib.hid (by rw [HN.out, if_neg (fun h => he h.1)])
            clear he hq HN
            go_wp2
            go_round
            case rel => exact ⟨k + 1, by omega, by go_num, by rw [HN2.out], by rw [HN2.out]⟩
            case measure => simp [intOf]; omega
        · obtain rfl : n = k := by omega
          have h2 := G2.out
          have h3 := G3.out
          obtain ⟨S, tk, hST⟩ : ∃ S tk, lgTo ds kind O n = (S, tk) := ⟨_, _, rfl⟩
          rw [hST] at h2 h3 ⊢
          clear hST hbd
          simp only at h2 h3 ⊢
          subst h3
          have s1 : decide (m ≤ S) = true := decide_eq_true h2
          have s2 : ((O : Int) + 1 == (O : Int) + 1) = true := by simp
          clear h2 G1 G2 G3 HC HD HE
          go_wp2
          go_ret
          exact ⟨rfl, B.out⟩
  · have hlt : decide ((1048576 : Int) < (len0 : Int)) = true := by simp; omega
    go_enter Tryd.func4, Tryd.ntmps4
    go_wp2
    go_ret
    exact ⟨rfl, Below.refl _ _⟩

set_option maxRecDepth 100000 in
theorem lifted (os : Os) (started : os.Started) (H : Type) (enc : TypeId × Value → H) :
    ReturnsInHanded {} Tryd.checked os 4 .any (fun w args => (Rows.fnJointLongestSpec.pre enc Tryd.prog Tryd.f4 [] false w args ∧ laidMetH Tryd.prog laidJ w) ∧ sizedMet enc Tryd.prog Tryd.f4 (OpenSpec.ofChange Rows.fnJointLongestSpec) false w args) (Rows.fnJointLongestSpec.post enc Tryd.prog Tryd.f4 false true false false) := by
  refine returnsInHanded_of_change_and (C := Tryd.checked) (X := fun w _ => laidMetH Tryd.prog laidJ w) (fun _ _ _ hh h => h.of_heap hh) own started (by kernel_rfl) Tryd.func4
    (ChangeSpec.witness_shaped (enc := enc) (C := Tryd.checked) (os := os) (X := fun w _ => laidMetH Tryd.prog laidJ w) false (World.doorLaid Tryd.prog 19 os) #[.slice none 0 0] 8 rfl (World.shaped_of_RefB (by kernel_rfl) (by kernel_rfl)) (by kernel_rfl) (by kernel_rfl) (by kernel_rfl) (door_met os _)) ?_
  intro W base args ds gs before hval0 hW _ _ hL _
  have hval : ∀ (j : Nat) t v, Tryd.f4.params[j]? = some t → args[j]? = some v → Value.okWide Tryd.prog W .any base t v := hval0
  have hW' := hW
  obtain ⟨p, q, hA0, hV, rfl, hfz, hnd⟩ := hW
  have hA : DataW.TrodAll enc Tryd.prog W 0 (fun _ => true) true Tryd.f4.params.toList args.toList ds p := hA0
  rw [Tryd.params4] at hA hval
  obtain ⟨v0, vs0, d0, ds0, p0, q0, hargs, rfl, rfl, h0, r0⟩ := trodAll_cons hA
  obtain ⟨rfl, rfl, rfl⟩ := trodAll_nil r0
  obtain rfl : args = #[v0] := by cases args; simp_all
  obtain ⟨rfl, rfl⟩ := trodVars_none hV
  obtain ⟨a0, len0, cap0, rfl⟩ := okWide_slice Tryd.underlying22 (hval 0 22 v0 rfl rfl)
  have k0 := h0
  have lt0 : ∀ x ∈ p0, x.block < W.heap.size := by obtain ⟨m, hm⟩ := k0; exact DataW.trod_lt m _ _ _ hm
  obtain ⟨z0, w0⟩ := by0_of h0
  clear hA0 hval0
  refine (walk a0 len0 cap0 z0 W w0 (tb_of hL)).mono fun e W' ⟨he, bel⟩ => ?_
  subst he
  exact ⟨_, rfl, _, _, _, [], _, [], hW', trodAll_mk1 (shut_bool Tryd.underlying4 _), (trodAll_cons_mk (Below.trod laidOut (by kernel_rfl) (of_decide_eq_true (by kernel_rfl)) k0 bel lt0) trodAll_mk0), rfl, bel.frame _, fun h => by cases h⟩

theorem over : Rows.fnJointLongestRow.holds Tryd.pinned (OpenSpec.ofChange Rows.fnJointLongestSpec) :=
  OpenClaim.holds_of_wide 4 Tryd.f4 rfl rfl rfl rfl rfl rfl rfl ⟨rfl, rfl, rfl, rfl, rfl⟩ rfl rfl rfl rfl rfl (by kernel_rfl) Tryd.func4 (facts_of signs (by kernel_rfl))
    (of_decide_eq_true (by kernel_rfl)) (by unfold Func.isWrapper; first | (rw [if_pos (by decide +kernel)]; kernel_rfl) | (rw [if_neg (by decide +kernel)]; exact ⟨rfl, rfl⟩))
    (fun os started H enc _ => lifted os started H enc)

theorem proved : Rows.FnJointLongestCardSaid :=
  Claim7.holds_tied_plain_at .later [] [.data, .data] true (true, "63c63b5b0d609edcfb30ebf556ca6689c936c8326ac42e96486b87f7987fc2ce") false
    over (fun _ h => by cases h) (by kernel_rfl) (fun _ h => by cases h) fnJointLongest_row_tie rfl ⟨rfl, rfl⟩ (by kernel_rfl) rfl
    (fun f fn hf hfn => by
      obtain rfl : f = 4 := Option.some.inj ((show Tryd.prog.funcNamed "loop.example/cableship/laws.FnJointLongest" = some 4 by kernel_rfl).symm.trans hf) |>.symm
      obtain rfl : fn = Tryd.f4 := (Option.some.inj (Tryd.func4.symm.trans hfn)).symm
      exact ⟨by kernel_rfl, fun j t ht => by
        rw [Tryd.params4] at ht
        have hm : t ∈ [22] := by simpa using Array.mem_of_getElem? ht
        have hall : ([22].all fun u => !Tryd.prog.wantsStandIn u) = true := by kernel_rfl
        exact (show Tryd.prog.wantsStandIn t = false by simpa using List.all_eq_true.1 hall t hm)⟩)
    (by kernel_rfl)
#print axioms proved

end Go.Proofs.YthbkimojbbkeiaaDoor.fnJointLongest
