/- FnJoint: more miles need no fewer splices. The tables of math/bits read as the program's text lays them. -/
import Derived.Test.YthbkimojbbkeiaaDoorLawJ
import Derived.Test.YthbkimojbbkeiaaDoorLawD
import Derived.Test.YthbkimojbbkeiaaDoorJbJ
import Derived.Test.YthbkimojbbkeiaaDoorJbD
namespace Go.Proofs.YthbkimojbbkeiaaDoor.fnJoint
open Go.ChangeShapes Go.WideShapes Go.ChangeAt Go.RowKit
set_option linter.unusedVariables false

theorem implMiles_is {M : Int} (v : Value) (kind : Int) (cs : List Int) (n hi : Nat) (w : World) (hv : SlF 2 w hi v cs n) (h : kmI cs n kind = M) :
    Calls Tryd.prog 12 #[v, .int .i64 kind] w fun e w' => e = .returned (.int .i64 M) ∧ Below w.heap.size w w' := h ▸ implSparesMiles_b v kind cs n hi w hv
theorem implFit_is {I : Int} {G : Bool} (v : Value) (nm nk : Int) (cs : List Int) (n hi : Nat) (w : World) (hv : SlF 2 w hi v cs n) (h : fitI cs n nm nk = I ∧ fitB cs n nm nk = G) :
    Calls Tryd.prog 11 #[v, .agg #[.int .i64 nm, .int .i64 nk]] w fun e w' => e = .returned (.tuple #[.int .i64 I, .bool G]) ∧ Below w.heap.size w w' := by
  obtain ⟨rfl, rfl⟩ := h
  exact implSparesFit_b v nm nk cs n hi w hv
theorem implFewest_is {J : Int} (v : Value) (kind miles : Int) (cs : List Int) (n hi : Nat) (w : World) (hv : SlF 2 w hi v cs n) (hT : Tb w) (h : jfI cs n kind miles = J) :
    Calls Tryd.prog 9 #[v, .int .i64 kind, .int .i64 miles] w fun e w' => e = .returned (.int .i64 J) ∧ Below w.heap.size w w' := h ▸ implJointFewest_b v kind miles cs n hi w hv hT
theorem specFewest_is {J : Int} (v : Value) (kind miles : Int) (cs : List Int) (n hi : Nat) (w : World) (hv : SlF 2 w hi v cs n) (h : jfI cs n kind miles = J) :
    Calls Tryd.prog 10 #[v, .int .i64 kind, .int .i64 miles] w fun e w' => e = .returned (.int .i64 J) ∧ Below w.heap.size w w' := h ▸ specJointFewest_b v kind miles cs n hi w hv
theorem jf_pos {cs : List Int} {n : Nat} {kind miles : Int} (h : bestJ cs n kind miles ≠ 0) : 0 ≤ jfI cs n kind miles := by
  have hlt := bestJ_lt (cs := cs) (n := n) (kind := kind) (miles := miles)
  unfold jfI
  rw [if_neg h]
  unfold jbL
  cases e : bitsL (bestJ cs n kind miles) n with
  | nil => exact absurd ((bitsL_nil hlt).1 e) h
  | cons x l => simp

set_option maxRecDepth 100000 in
set_option maxHeartbeats 4000000 in
theorem walk (a0 : Option Addr) (len0 cap0 : Nat) (z0 : Unit) (w : World) (h0 : By w w.heap.size (.slice a0 len0 cap0) len0) (hT : Tb w) :
    Calls Tryd.prog 3 #[.slice a0 len0 cap0] w fun e w' => e = .returned (.bool true) ∧ Below w.heap.size w w' := by
  by_cases hn : len0 ≤ 1048576
  · have hlt : decide ((1048576 : Int) < (len0 : Int)) = false := by simp; omega
    have T := Lib.hid hT
    clear hT
    go_enter Tryd.func3, Tryd.ntmps3
    go_wp2_with fail
    refine (drawJointFewest_any _ len0 w.heap.size w h0 (Nat.le_refl _)).mono ?_
    rintro e w1 ⟨v1, kind, m, rfl, hd⟩
    obtain ⟨cs, n, b1, s1, hn12, hk, hm⟩ := hd.out
    obtain ⟨J, hJ⟩ : ∃ J, jfI cs n kind m = J := ⟨_, rfl⟩
    have HJ := Lib.hid hJ
    have B := Lib.hid b1
    have V := Lib.hid s1
    replace T := Lib.hid (T.out.old b1)
    obtain ⟨a1, cap1, rfl, hl1, -⟩ := s1
    have hne : (J != J) = false := by simp
    clear hd b1 hJ
    go_wp2_with fail
    refine (implFewest_is _ kind m cs n _ _ V.out T.out HJ.out).mono ?_
    rintro e w2 ⟨rfl, b⟩
    replace B := Lib.hid (nextW B.out b)
    replace V := Lib.hid (V.out.old b)
    replace T := Lib.hid (T.out.old b)
    clear b
    go_wp2_with fail
    refine (specFewest_is _ kind m cs n _ _ V.out HJ.out).mono ?_
    rintro e w3 ⟨rfl, b⟩
    replace B := Lib.hid (nextW B.out b)
    replace V := Lib.hid (V.out.old b)
    replace T := Lib.hid (T.out.old b)
    clear b
    by_cases hJ0 : J < 0
    · have t1 : decide (J < 0) = true := decide_eq_true hJ0
      have hee : (J == J) = true := by simp
      go_wp2_with fail
      go_ret
      exact ⟨rfl, B.out⟩
    · have t1 : decide (J < 0) = false := decide_eq_false hJ0
      have hbest : bestJ cs n kind m ≠ 0 := fun e => by
        have := HJ.out
        unfold jfI at this
        rw [if_pos e] at this
        omega
      obtain ⟨g1, g2, g3⟩ := jf_law hbest
      obtain ⟨M, hM⟩ : ∃ M, kmI cs n kind = M := ⟨_, rfl⟩
      obtain ⟨I, hI⟩ : ∃ I, fitI cs n m kind = I := ⟨_, rfl⟩
      obtain ⟨G, hG⟩ : ∃ G, fitB cs n m kind = G := ⟨_, rfl⟩
      obtain ⟨J2, hJ2⟩ : ∃ J2, jfI cs n kind (m - 1) = J2 := ⟨_, rfl⟩
      have g4 : m = 1 ∨ (0 ≤ J2 ∧ J2 ≤ J) := by
        rcases g2 with e | ⟨e1, e2⟩
        · exact .inl e
        · have := jf_pos e1
          rw [hJ2] at this e2
          rw [HJ.out] at e2
          exact .inr ⟨this, e2⟩
      rw [hM] at g1
      rw [HJ.out, hG] at g3
      have HM := Lib.hid hM
      have HF := Lib.hid (And.intro hI hG)
      have HJ2 := Lib.hid hJ2
      have t2 : decide (m ≤ M) = true := decide_eq_true g1
      have hw : IntKind.i64.wrap (m - 1) = m - 1 := IntWalk.i64_in _ (by omega)
      clear hM hI hG hJ2 g1 g2 hbest
      go_wp2_with fail
      refine (implFit_is _ m kind cs n _ _ V.out HF.out).mono ?_
      rintro e w4 ⟨rfl, b⟩
      replace B := Lib.hid (nextW B.out b)
      replace V := Lib.hid (V.out.old b)
      replace T := Lib.hid (T.out.old b)
      clear b
      go_wp2_with fail
      refine (implFewest_is _ kind (m - 1) cs n _ _ V.out T.out HJ2.out).mono ?_
      rintro e w5 ⟨rfl, b⟩
      replace B := Lib.hid (nextW B.out b)
      replace V := Lib.hid (V.out.old b)
      clear b T
      have key : Hid ((m = 1 ∨ (m ≠ 1 ∧ 0 ≤ J2 ∧ J2 ≤ J)) ∧ (50 < m ∨ (¬ 50 < m ∧ (J == 0) = G))) := Lib.hid (by
        refine ⟨?_, ?_⟩
        · by_cases e : m = 1
          · exact .inl e
          · rcases g4 with h | h
            · exact absurd h e
            · exact .inr ⟨e, h⟩
        · by_cases e : 50 < m
          · exact .inl e
          · rcases g3 with h | h
            · exact absurd h e
            · exact .inr ⟨e, by rw [← h]; rfl⟩)
      clear g3 g4
      obtain ⟨k1, k2⟩ := key.out
      clear key
      have fin : ∀ W : World, Below w5.heap.size w5 W → Below w.heap.size w W := fun W h => nextW B.out h
      have FIN := Lib.hid fin
      clear fin
      rcases k1 with e1 | ⟨e1, e2, e3⟩
      · have s1 : (m == 1) = true := by simp [e1]
        rcases k2 with e4 | ⟨e4, e5⟩
        · omega
        · have s2 : decide (50 < m) = false := decide_eq_false e4
          clear e1 e4
          cases G with
          | false =>
            go_wp2_with fail
            refine (implMiles_is _ kind cs n _ _ V.out HM.out).mono ?_
            rintro e w6 ⟨rfl, b⟩
            go_wp2_with fail
            go_ret
            exact ⟨rfl, FIN.out _ b⟩
          | true =>
            go_wp2_with fail
            refine (implMiles_is _ kind cs n _ _ V.out HM.out).mono ?_
            rintro e w6 ⟨rfl, b⟩
            go_wp2_with fail
            go_ret
            exact ⟨rfl, FIN.out _ b⟩
      · have s1 : (m == 1) = false := by simp [e1]
        have s3 : decide (0 ≤ J2) = true := decide_eq_true e2
        have s4 : decide (J2 ≤ J) = true := decide_eq_true e3
        rcases k2 with e4 | ⟨e4, e5⟩
        · have s2 : decide (50 < m) = true := decide_eq_true e4
          clear e1 e2 e3 e4
          go_wp2_with fail
          refine (implMiles_is _ kind cs n _ _ V.out HM.out).mono ?_
          rintro e w6 ⟨rfl, b⟩
          go_wp2_with fail
          go_ret
          exact ⟨rfl, FIN.out _ b⟩
        · have s2 : decide (50 < m) = false := decide_eq_false e4
          clear e1 e2 e3 e4
          cases G with
          | false =>
            go_wp2_with fail
            refine (implMiles_is _ kind cs n _ _ V.out HM.out).mono ?_
            rintro e w6 ⟨rfl, b⟩
            go_wp2_with fail
            go_ret
            exact ⟨rfl, FIN.out _ b⟩
          | true =>
            go_wp2_with fail
            refine (implMiles_is _ kind cs n _ _ V.out HM.out).mono ?_
            rintro e w6 ⟨rfl, b⟩
            go_wp2_with fail
            go_ret
            exact ⟨rfl, FIN.out _ b⟩
  · have hlt : decide ((1048576 : Int) < (len0 : Int)) = true := by simp; omega
    go_enter Tryd.func3, Tryd.ntmps3
    go_wp2
    go_ret
    exact ⟨rfl, Below.refl _ _⟩

set_option maxRecDepth 100000 in
theorem lifted (os : Os) (started : os.Started) (H : Type) (enc : TypeId × Value → H) :
    ReturnsInHanded {} Tryd.checked os 3 .any (fun w args => (Rows.fnJointSpec.pre enc Tryd.prog Tryd.f3 [] false w args ∧ laidMetH Tryd.prog laidJ w) ∧ sizedMet enc Tryd.prog Tryd.f3 (OpenSpec.ofChange Rows.fnJointSpec) false w args) (Rows.fnJointSpec.post enc Tryd.prog Tryd.f3 false true false false) := by
  refine returnsInHanded_of_change_and (C := Tryd.checked) (X := fun w _ => laidMetH Tryd.prog laidJ w) (fun _ _ _ hh h => h.of_heap hh) own started (by kernel_rfl) Tryd.func3
    (ChangeSpec.witness_shaped (enc := enc) (C := Tryd.checked) (os := os) (X := fun w _ => laidMetH Tryd.prog laidJ w) false (World.doorLaid Tryd.prog 19 os) #[.slice none 0 0] 8 rfl (World.shaped_of_RefB (by kernel_rfl) (by kernel_rfl)) (by kernel_rfl) (by kernel_rfl) (by kernel_rfl) (door_met os _)) ?_
  intro W base args ds gs before hval0 hW _ _ hL _
  have hval : ∀ (j : Nat) t v, Tryd.f3.params[j]? = some t → args[j]? = some v → Value.okWide Tryd.prog W .any base t v := hval0
  have hW' := hW
  obtain ⟨p, q, hA0, hV, rfl, hfz, hnd⟩ := hW
  have hA : DataW.TrodAll enc Tryd.prog W 0 (fun _ => true) true Tryd.f3.params.toList args.toList ds p := hA0
  rw [Tryd.params3] at hA hval
  obtain ⟨v0, vs0, d0, ds0, p0, q0, hargs, rfl, rfl, h0, r0⟩ := trodAll_cons hA
  obtain ⟨rfl, rfl, rfl⟩ := trodAll_nil r0
  obtain rfl : args = #[v0] := by cases args; simp_all
  obtain ⟨rfl, rfl⟩ := trodVars_none hV
  obtain ⟨a0, len0, cap0, rfl⟩ := okWide_slice Tryd.underlying22 (hval 0 22 v0 rfl rfl)
  have k0 := h0
  have lt0 : ∀ x ∈ p0, x.block < W.heap.size := by obtain ⟨m, hm⟩ := k0; exact DataW.trod_lt m _ _ _ hm
  obtain ⟨z0, w0⟩ := by0_of h0
  clear hA0 hval0
  refine (walk a0 len0 cap0 z0 W w0 (tb_of hL)).mono fun e W' ⟨he, bel⟩ => ?_
  subst he
  exact ⟨_, rfl, _, _, _, [], _, [], hW', trodAll_mk1 (shut_bool Tryd.underlying4 _), (trodAll_cons_mk (Below.trod laidOut (by kernel_rfl) (of_decide_eq_true (by kernel_rfl)) k0 bel lt0) trodAll_mk0), rfl, bel.frame _, fun h => by cases h⟩

theorem over : Rows.fnJointRow.holds Tryd.pinned (OpenSpec.ofChange Rows.fnJointSpec) :=
  OpenClaim.holds_of_wide 3 Tryd.f3 rfl rfl rfl rfl rfl rfl rfl ⟨rfl, rfl, rfl, rfl, rfl⟩ rfl rfl rfl rfl rfl (by kernel_rfl) Tryd.func3 (facts_of signs (by kernel_rfl))
    (of_decide_eq_true (by kernel_rfl)) (by unfold Func.isWrapper; first | (rw [if_pos (by decide +kernel)]; kernel_rfl) | (rw [if_neg (by decide +kernel)]; exact ⟨rfl, rfl⟩))
    (fun os started H enc _ => lifted os started H enc)

theorem proved : Rows.FnJointCardSaid :=
  Claim7.holds_tied_plain_at .later [] [.data, .data] true (true, "63c63b5b0d609edcfb30ebf556ca6689c936c8326ac42e96486b87f7987fc2ce") false
    over (fun _ h => by cases h) (by kernel_rfl) (fun _ h => by cases h) fnJoint_row_tie rfl ⟨rfl, rfl⟩ (by kernel_rfl) rfl
    (fun f fn hf hfn => by
      obtain rfl : f = 3 := Option.some.inj ((show Tryd.prog.funcNamed "loop.example/cableship/laws.FnJoint" = some 3 by kernel_rfl).symm.trans hf) |>.symm
      obtain rfl : fn = Tryd.f3 := (Option.some.inj (Tryd.func3.symm.trans hfn)).symm
      exact ⟨by kernel_rfl, fun j t ht => by
        rw [Tryd.params3] at ht
        have hm : t ∈ [22] := by simpa using Array.mem_of_getElem? ht
        have hall : ([22].all fun u => !Tryd.prog.wantsStandIn u) = true := by kernel_rfl
        exact (show Tryd.prog.wantsStandIn t = false by simpa using List.all_eq_true.1 hall t hm)⟩)
    (by kernel_rfl)
#print axioms proved

end Go.Proofs.YthbkimojbbkeiaaDoor.fnJoint
