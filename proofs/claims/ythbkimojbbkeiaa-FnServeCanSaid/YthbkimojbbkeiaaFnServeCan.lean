/- FnServeCan: more spares serve as well, fewer needs are served as well. -/
import Derived.Test.YthbkimojbbkeiaaLawD
import Derived.Test.YthbkimojbbkeiaaSvG4
import Derived.Deep.CutRange
namespace Go.Proofs.Ythbkimojbbkeiaa.fnServeCan
open Go.ChangeShapes Go.WideShapes Go.ChangeAt Go.RowKit
set_option linter.unusedVariables false

theorem specCan_is {r : Bool} (v1 v2 : Value) (cs ds : List Int) (n m h1 h2 : Nat) (w : World) (hv1 : SlF 2 w h1 v1 cs n) (hv2 : SlF 2 w h2 v2 ds m) (h : scB cs n ds m = r) :
    Calls Try.prog 42 #[v1, v2] w fun e w' => e = .returned (.bool r) ∧ Below w.heap.size w w' := h ▸ specServeCan_b v1 v2 cs ds n m h1 h2 w hv1 hv2

set_option maxRecDepth 100000 in
set_option maxHeartbeats 4000000 in
theorem walk (a0 : Option Addr) (len0 cap0 : Nat) (z0 : Unit) (a1 : Option Addr) (len1 cap1 : Nat) (z1 : Unit) (w : World) (h0 : By w w.heap.size (.slice a0 len0 cap0) len0) (_ : By w w.heap.size (.slice a1 len1 cap1) len1) :
    Calls Try.prog 13 #[.slice a0 len0 cap0, .slice a1 len1 cap1] w fun e w' => e = .returned (.bool true) ∧ Below w.heap.size w w' := by
  by_cases hn : len0 ≤ 1048576
  · have hlt : decide ((1048576 : Int) < (len0 : Int)) = false := decide_eq_false (by omega)
    by_cases hn1 : len1 ≤ 1048576
    · have hlt1 : decide ((1048576 : Int) < (len1 : Int)) = false := decide_eq_false (by omega)
      go_enter Try.func13, Try.ntmps13
      go_wp2_with fail
      refine (drawServeCan_any _ len0 w.heap.size w h0 (Nat.le_refl _)).mono ?_
      rintro e w1 ⟨v1, v2, rfl, hd⟩
      obtain ⟨cs, n, ds, m, b1, s1, s2, hn12, hm4⟩ := hd.out
      obtain ⟨F, hF⟩ : ∃ F, scB cs n ds m = F := ⟨_, rfl⟩
      have HF := Lib.hid hF
      have B := Lib.hid b1
      have V1 := Lib.hid s1
      have V2 := Lib.hid s2
      obtain ⟨c1, k1, rfl, hl1, -⟩ := s1
      obtain ⟨c2, cap2, rfl, hl2, hm20, hmc, hmc2, -⟩ := s2
      have HL1 := Lib.hid hl1
      have HL2 := Lib.hid hl2
      clear hd b1 hF hl1 hl2
      go_wp2_with fail
      refine (implServeCan_is _ _ cs ds n m _ _ _ V1.out V2.out HF.out).mono ?_
      rintro e w2 ⟨rfl, b⟩
      replace B := Lib.hid (nextW B.out b)
      replace V1 := Lib.hid (V1.out.old b)
      replace V2 := Lib.hid (V2.out.old b)
      clear b
      go_wp2_with fail
      refine (specCan_is _ _ cs ds n m _ _ _ V1.out V2.out HF.out).mono ?_
      rintro e w3 ⟨rfl, b⟩
      replace B := Lib.hid (nextW B.out b)
      replace V1 := Lib.hid (V1.out.old b)
      replace V2 := Lib.hid (V2.out.old b)
      clear b
      cases F with
      | false =>
        go_wp2
        go_ret
        exact ⟨rfl, B.out⟩
      | true =>
        obtain ⟨S, hS⟩ : ∃ S, smI cs n ds m = S := ⟨_, rfl⟩
        have HS := Lib.hid hS
        have hS1 : decide (0 < S) = true := by rw [← hS, ← scB_many]; exact HF.out
        have HFUR := Lib.hid fun h => sc_more HF.out HL1.out h
        clear hS
        have bx := (Below.refl w3.heap.size w3).alloc (Nat.le_refl _) (.cells #[] 35)
        have X1 := Lib.hid (V1.out.old bx)
        have BX := Lib.hid bx
        have hz2 : w3.heap.size ≤ (w3.alloc (.cells #[] 35)).heap.size := by simp
        have OW := Lib.hid (OwP.empty w3 w3.heap.size (Nat.le_refl _))
        have hnn : n ≤ 1048576 := by omega
        clear bx
        go_upto_region 9 with (first | (at_builtin; refine wpList_appS OW.out X1.out (by rfl) (by rfl) (by rfl) (by rfl) (by omega) hnn hz2 ?_; intro v5 w5 ow5 b5; have OW5 := Lib.hid ow5; have B5 := Lib.hid b5; have hz5 := Nat.le_trans hz2 b5.size; clear ow5 b5) | (at_builtin; refine wpList_pushP OW5.out (by rfl) (by rfl) (by rfl) (by rfl) (by omega) hz5 ?_; intro v6 w6 ow6 b6; have OW6 := Lib.hid ow6; have B6 := Lib.hid b6; obtain ⟨ra, rc, rfl, -⟩ := ow6.form0; clear ow6 b6))
        have bT := (BX.out.trans B5.out).trans B6.out
        have V9 : Hid (SlF 2 w6 w6.heap.size (.slice ra (n + 1) rc) (cs ++ [1, 3]) (n + 1)) := Lib.hid (by
          have := (OW6.out.wr (by omega)).sl
          simpa only [List.nil_append, Nat.zero_add] using this)
        replace V1 := Lib.hid (V1.out.old bT)
        replace V2 := Lib.hid (V2.out.old bT)
        replace B := Lib.hid (nextW B.out bT)
        clear bT OW OW5 OW6 B5 B6 BX X1
        by_cases hm0 : m = 0
        · subst hm0
          have hmg : decide ((0 : Int) < ((0 : Nat) : Int)) = false := by decide
          have hmg2 : decide ((0 : Int) < 0) = false := by decide
          by_cases hn9 : n + 1 ≤ 10
          · have t1 : decide ((10 : Int) < (n : Int) + 1) = false := decide_eq_false (by omega)
            go_wp2_with fail
            refine (implServeCan_is _ _ (cs ++ [1, 3]) ds (n + 1) 0 _ _ _ V9.out V2.out (HFUR.out hn9)).mono ?_
            rintro e wa ⟨rfl, b⟩
            replace B := Lib.hid (nextW B.out b)
            replace V1 := Lib.hid (V1.out.old b)
            replace V2 := Lib.hid (V2.out.old b)
            clear b
            go_wp2_with fail
            refine (implServeMany_is _ _ cs ds n 0 _ _ _ V1.out V2.out HS.out).mono ?_
            rintro e wb ⟨rfl, b⟩
            replace B := Lib.hid (nextW B.out b)
            go_wp2
            go_ret
            exact ⟨rfl, B.out⟩
          · have t1 : decide ((10 : Int) < (n : Int) + 1) = true := decide_eq_true (by omega)
            go_wp2_with fail
            refine (implServeMany_is _ _ cs ds n 0 _ _ _ V1.out V2.out HS.out).mono ?_
            rintro e wb ⟨rfl, b⟩
            replace B := Lib.hid (nextW B.out b)
            go_wp2
            go_ret
            exact ⟨rfl, B.out⟩
        · have hmg : decide ((0 : Int) < (m : Int)) = true := decide_eq_true (by omega)
          have hmg3 : decide (0 < m) = true := decide_eq_true (by omega)
          have hmne : ((m : Int) == 0) = false := by simp; omega
          have hmd : (len1 : Int).tmod (m : Int) = ((len1 % m : Nat) : Int) := by rw [Int.tmod_eq_emod_of_nonneg (by omega)]; rfl
          have hmd2 : (len1 : Int) % (m : Int) = ((len1 % m : Nat) : Int) := rfl
          have hq : len1 % m < m := Nat.mod_lt len1 (by omega)
          revert hmd hmd2 hq
          generalize len1 % m = q
          intro hmd hmd2 hq
          obtain ⟨_, _, e2, _, _, _, _, hc2⟩ := V2.out
          cases e2
          obtain ⟨b2, off2, rfl, hb2, hc2⟩ := hc2 (by omega)
          have SRC1 := Lib.hid (src_takeP (cap := cap2) HL2.out (Nat.le_of_lt hq) hc2)
          have SRC2 := Lib.hid (src_dropP (cap := cap2 - (q + 1)) HL2.out (show q + 1 ≤ m from hq) hc2)
          have OW := Lib.hid (OwP.empty w6 w6.heap.size (Nat.le_refl _))
          clear hc2
          have hkc : q ≤ cap2 := by omega
          have hk1 : q + 1 ≤ m := hq
          have hk1i : (q : Int) + 1 ≤ (m : Int) := by omega
          have hk2i : (q : Int) + 1 ≤ (cap2 : Int) := by omega
          have BA := Lib.hid (below_drewN ((Below.refl w6.heap.size w6).alloc (Nat.le_refl _) (.cells #[] 35)) 1)
          have hlk : q ≤ 1048576 := by omega
          have hld : m - (q + 1) ≤ 1048576 := by omega
          go_upto_region 11 with (fail)
          go_cut [11] from 57 to 66 (fun v wc => OwP wc w6.heap.size v (del ds q) (m - 1) ∧ Below w6.heap.size w6 wc)
          case first =>
            have hw1 : IntKind.i64.wrap ((q : Int) + 1) = (q : Int) + 1 := IntWalk.i64_in _ (by omega)
            have hw2 : (0 : Int) ≤ (q : Int) + 1 := by omega
            have hw3 : ((q : Int) + 1).toNat = q + 1 := by omega
            by_cases hcy : cap2 = q + 1
            · have SR2 : Hid (SrcP w6 (.slice (some ⟨b2, off2, none⟩) 0 0) (ds.drop ((q + 1) * 2)) 0) := Lib.hid (by
                have hz : ds.drop ((q + 1) * 2) = [] := List.drop_eq_nil_of_le (by rw [HL2.out]; omega)
                rw [hz]
                exact .inr ⟨b2, off2, 0, rfl, rfl, fun j hj => absurd hj (by omega)⟩)
              have hnk : m - 1 = 0 + q + 0 := by omega
              subst hcy
              have hkk : (q : Int) ≤ (q : Int) + 1 := by omega
              go_region_law (first | (refine step_appP (.tmp 57) (.tmp 60) (show OwP (World.drewN _ 1) _ _ _ _ from OW.out) (SRC1.out.old BA.out) rfl rfl rfl rfl (by omega) hlk (by simp) ?_; intro v6 wd own6 b6; have BB := Lib.hid (BA.out.trans b6); have OW6 := Lib.hid own6; have hz6 := BB.out.size; clear own6 b6) | (refine step_appP (.tmp 61) (.tmp 65) OW6.out (SR2.out.old BB.out) rfl rfl rfl rfl (by omega) (by omega) hz6 ?_; intro v7 w7 own7 b7))
              all_goals
                clear hw1 hw2 hw3
                go_wp2_with fail
                go_meet
                case rel => exact ⟨by rw [hnk]; exact own7, BB.out.trans b7⟩
            · have SR2 : Hid (SrcP w6 (.slice (some ⟨b2, off2 + (q + 1) * 2, none⟩) (m - (q + 1)) (cap2 - (q + 1))) (ds.drop ((q + 1) * 2)) (m - (q + 1))) := Lib.hid SRC2.out
              have hnk : m - 1 = 0 + q + (m - (q + 1)) := by omega
              go_region_law (first | (refine step_appP (.tmp 57) (.tmp 60) (show OwP (World.drewN _ 1) _ _ _ _ from OW.out) (SRC1.out.old BA.out) rfl rfl rfl rfl (by omega) hlk (by simp) ?_; intro v6 wd own6 b6; have BB := Lib.hid (BA.out.trans b6); have OW6 := Lib.hid own6; have hz6 := BB.out.size; clear own6 b6) | (refine step_appP (.tmp 61) (.tmp 65) OW6.out (SR2.out.old BB.out) rfl rfl rfl rfl (by omega) hld hz6 ?_; intro v7 w7 own7 b7))
              all_goals
                clear hw1 hw2 hw3
                go_wp2_with fail
                go_meet
                case rel => exact ⟨by rw [hnk]; exact own7, BB.out.trans b7⟩
          case rest =>
            obtain ⟨hown, hbel⟩ := hcut
            have D1 := Lib.hid (hown.wr (by omega)).sl
            obtain ⟨da, dc, rfl, -⟩ := hown.form0
            replace V1 := Lib.hid (V1.out.old hbel)
            replace V2 := Lib.hid (V2.out.old hbel)
            replace V9 := Lib.hid (V9.out.old hbel)
            replace B := Lib.hid (nextW B.out hbel)
            clear SRC1 SRC2 OW BA hown hbel
            obtain ⟨_, _, e2, _, _, _, _, hc2⟩ := V2.out
            cases e2
            obtain ⟨_, _, e3, _, hc2⟩ := hc2 (by omega)
            cases e3
            obtain ⟨f0, f1⟩ := cellsS hc2 hq (Below.refl _ _) (World.block_lt_of_cell? wc _ (hc2 (q * 2) (by omega)))
            obtain ⟨f, hfn, hfi, -⟩ := fit_at (best_of_sc HF.out).1 hq
            have HFI := Lib.hid hfi
            have HLE := Lib.hid (sc_less HF.out HL2.out hq)
            have hqm : (q : Int) < (m : Int) := by omega
            clear hfi hc2
            go_wp2_with fail
            refine (implSparesFit_is _ (smi ds q) (ski ds q) cs n _ _ V1.out HFI.out).mono ?_
            rintro e wf ⟨rfl, b⟩
            replace B := Lib.hid (nextW B.out b)
            replace V1 := Lib.hid (V1.out.old b)
            replace V2 := Lib.hid (V2.out.old b)
            replace V9 := Lib.hid (V9.out.old b)
            replace D1 := Lib.hid (D1.out.old b)
            clear b f0 f1
            go_wp2_with fail
            refine (implServeCan_is _ _ cs (del ds q) n (m - 1) _ _ _ V1.out D1.out HLE.out).mono ?_
            rintro e wg ⟨rfl, b⟩
            replace B := Lib.hid (nextW B.out b)
            replace V1 := Lib.hid (V1.out.old b)
            replace V2 := Lib.hid (V2.out.old b)
            replace V9 := Lib.hid (V9.out.old b)
            clear b D1
            by_cases hn9 : n + 1 ≤ 10
            · have t1 : decide ((10 : Int) < (n : Int) + 1) = false := decide_eq_false (by omega)
              go_wp2_with fail
              refine (implServeCan_is _ _ (cs ++ [1, 3]) ds (n + 1) m _ _ _ V9.out V2.out (HFUR.out hn9)).mono ?_
              rintro e wa ⟨rfl, b⟩
              replace B := Lib.hid (nextW B.out b)
              replace V1 := Lib.hid (V1.out.old b)
              replace V2 := Lib.hid (V2.out.old b)
              clear b
              go_wp2_with fail
              refine (implServeMany_is _ _ cs ds n m _ _ _ V1.out V2.out HS.out).mono ?_
              rintro e wb ⟨rfl, b⟩
              replace B := Lib.hid (nextW B.out b)
              go_wp2
              go_ret
              exact ⟨rfl, B.out⟩
            · have t1 : decide ((10 : Int) < (n : Int) + 1) = true := decide_eq_true (by omega)
              go_wp2_with fail
              refine (implServeMany_is _ _ cs ds n m _ _ _ V1.out V2.out HS.out).mono ?_
              rintro e wb ⟨rfl, b⟩
              replace B := Lib.hid (nextW B.out b)
              go_wp2
              go_ret
              exact ⟨rfl, B.out⟩
    · have hlt1 : decide ((1048576 : Int) < (len1 : Int)) = true := decide_eq_true (by omega)
      go_enter Try.func13, Try.ntmps13
      go_wp2
      go_ret
      exact ⟨rfl, Below.refl _ _⟩
  · have hlt : decide ((1048576 : Int) < (len0 : Int)) = true := decide_eq_true (by omega)
    go_enter Try.func13, Try.ntmps13
    go_wp2
    go_ret
    exact ⟨rfl, Below.refl _ _⟩

set_option maxRecDepth 100000 in
theorem lifted (os : Os) (started : os.Started) (H : Type) (enc : TypeId × Value → H) :
    ReturnsInHanded {} Try.checked os 13 .any (Rows.fnServeCanSpec.pre6 enc Try.prog Try.f13 Rows.fnServeCanRow.domain false) (Rows.fnServeCanSpec.post enc Try.prog Try.f13 false true false false) := by
  refine returnsInHanded_of_change (C := Try.checked) own started (by kernel_rfl) Try.func13
    (ChangeSpec.witness6 (enc := enc) (C := Try.checked) false ⟨#[], #[.slice none 0 0, .slice none 0 0], []⟩ 8 (by kernel_rfl) (by kernel_rfl) (by kernel_rfl) (by kernel_rfl)) ?_
  intro W base args ds gs before hval0 hW hcnd _
  have hval : ∀ (j : Nat) t v, Try.f13.params[j]? = some t → args[j]? = some v → Value.okWide Try.prog W .any base t v := hval0
  have hW' := hW
  obtain ⟨p, q, hA0, hV, rfl, hfz, hnd⟩ := hW
  have hA : DataW.TrodAll enc Try.prog W 0 (fun _ => true) true Try.f13.params.toList args.toList ds p := hA0
  rw [Try.params13] at hA hval
  obtain ⟨v0, vs0, d0, ds0, p0, q0, hargs, rfl, rfl, h0, r0⟩ := trodAll_cons hA
  obtain ⟨v1, vs1, d1, ds1, p1, q1, rfl, rfl, rfl, h1, r1⟩ := trodAll_cons r0
  obtain ⟨rfl, rfl, rfl⟩ := trodAll_nil r1
  obtain rfl : args = #[v0, v1] := by cases args; simp_all
  obtain ⟨rfl, rfl⟩ := trodVars_none hV
  obtain ⟨a0, len0, cap0, rfl⟩ := okWide_slice Try.underlying48 (hval 0 48 v0 rfl rfl)
  have k0 := h0
  have lt0 : ∀ x ∈ p0, x.block < W.heap.size := by obtain ⟨m, hm⟩ := k0; exact DataW.trod_lt m _ _ _ hm
  obtain ⟨z0, w0⟩ := by0_of h0
  obtain ⟨a1, len1, cap1, rfl⟩ := okWide_slice Try.underlying48 (hval 1 48 v1 rfl rfl)
  have k1 := h1
  have lt1 : ∀ x ∈ p1, x.block < W.heap.size := by obtain ⟨m, hm⟩ := k1; exact DataW.trod_lt m _ _ _ hm
  obtain ⟨z1, w1⟩ := by0_of h1
  clear hA0 hval0
  refine (walk a0 len0 cap0 z0 a1 len1 cap1 z1 W w0 w1).mono fun e W' ⟨he, bel⟩ => ?_
  subst he
  exact ⟨_, rfl, _, _, _, [], _, [], hW', trodAll_mk1 (shut_bool Try.underlying4 _), (trodAll_cons_mk (Below.trod laidOut (by kernel_rfl) (of_decide_eq_true (by kernel_rfl)) k0 bel lt0) (trodAll_cons_mk (Below.trod laidOut (by kernel_rfl) (of_decide_eq_true (by kernel_rfl)) k1 bel lt1) trodAll_mk0)), rfl, bel.frame _, fun h => by cases h⟩

theorem over : Rows.fnServeCanRow.holds Try.pinned (OpenSpec.ofChange Rows.fnServeCanSpec) :=
  OpenClaim.holds_of_wide 13 Try.f13 rfl rfl rfl rfl rfl rfl rfl ⟨rfl, rfl, rfl, rfl, rfl⟩ rfl rfl rfl rfl rfl (by kernel_rfl) Try.func13 (facts_of signs (by kernel_rfl))
    (of_decide_eq_true (by kernel_rfl)) (by unfold Func.isWrapper; first | (rw [if_pos (by decide +kernel)]; kernel_rfl) | (rw [if_neg (by decide +kernel)]; exact ⟨rfl, rfl⟩))
    (fun os started H enc _ => lifted os started H enc)

theorem proved : Rows.FnServeCanSaid := over
#print axioms proved

end Go.Proofs.Ythbkimojbbkeiaa.fnServeCan
