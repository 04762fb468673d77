/- Contract: ServeBest of the program, the whole. -/
import Derived.Test.YthbkimojbbkeiaaSvBestI
namespace Go.Proofs.Ythbkimojbbkeiaa
open Go.RowKit

theorem hentBest : ∀ (args : Array Value) (W : World), Sem.run Try.prog (callFunc 85 args) W = .ok (.enter 85 args) W := by
  intro args W
  rfl

set_option maxRecDepth 100000 in
set_option maxHeartbeats 4000000 in
theorem implServeBest_b (v1 v2 : Value) (cs ds : List Int) (n m h1 h2 : Nat) (w : World) (hv1 : SlF 2 w h1 v1 cs n) (hv2 : SlF 2 w h2 v2 ds m) :
    Calls Try.prog 51 #[v1, v2] w fun e w' => ∃ v', e = .returned (.tuple #[v', .bool (scB cs n ds m)]) ∧ Below w.heap.size w w' ∧ Wr w' w.heap.size w'.heap.size v' (sbL cs n ds m) := by
  have HV1 := Lib.hid hv1
  have HV2 := Lib.hid hv2
  obtain ⟨a1, cap1, rfl, -⟩ := hv1
  obtain ⟨a2, cap2, rfl, -⟩ := hv2
  have bA := (Below.refl w.heap.size w).alloc (Nat.le_refl _) (.cells #[.slice a1 n cap1] 25)
  have bB := (Below.refl (w.alloc (.cells #[.slice a1 n cap1] 25)).heap.size (w.alloc (.cells #[.slice a1 n cap1] 25))).alloc (Nat.le_refl _) (.cells #[.slice a2 m cap2] 25)
  have rA := (Row.new w #[.slice a1 n cap1] 25).old bB
  have rB := Row.new (w.alloc (.cells #[.slice a1 n cap1] 25)) #[.slice a2 m cap2] 25
  rw [World.size_alloc] at rB
  have BX := Lib.hid (nextW bA bB)
  have RA := Lib.hid rA
  have RB := Lib.hid rB
  clear bA bB rA rB
  go_enter Try.func51, Try.ntmps51
  go_upto_region 1 with (fail)
  revert BX RA RB
  generalize ((w.alloc (.cells #[.slice a1 n cap1] 25)).alloc (.cells #[.slice a2 m cap2] 25)) = wb
  intro BX RA RB
  have c1 := (RA.out.cell 0).trans (show _ = some (Value.slice a1 n cap1) from rfl)
  have c2 := (RB.out.cell 0).trans (show _ = some (Value.slice a2 m cap2) from rfl)
  cases e1 : bothB cs n ds m with
  | false =>
    have HR : Hid (scB cs n ds m = false ∧ sbL cs n ds m = []) := Lib.hid (by simp [scB, sbL, e1])
    go_wp2_with fail
    refine (servable_is _ _ cs ds n m _ _ _ (HV1.out.old BX.out) (HV2.out.old BX.out) e1).mono ?_
    rintro e w1 ⟨rfl, b1⟩
    clear c1 c2
    go_wp2_with fail
    go_ret2
    exact ⟨_, by rw [HR.out.1]; rfl, nextW BX.out b1, by rw [HR.out.2]; exact Wr.nil _ _ _⟩
  | true =>
    have HM := Lib.hid (both_bd e1)
    have HR : Hid ((leastI cs ds n m [] < 0 → servs cs ds n m [] = [] ∧ scB cs n ds m = false ∧ sbL cs n ds m = []) ∧ (0 ≤ leastI cs ds n m [] → bestOf cs ds m (servs cs ds n m []) = some (sbL cs n ds m) ∧ scB cs n ds m = true)) := Lib.hid (by
      obtain ⟨k1, k2⟩ := best_main (cs := cs) (ds := ds) (n := n) (m := m) m [] (by simp)
      refine ⟨fun h => ⟨k1 h, ?_⟩, fun h => ?_⟩
      · have : scB cs n ds m = false := by rw [scB, e1, decide_eq_false (by omega)]; rfl
        exact ⟨this, by simp [sbL, this]⟩
      · have : scB cs n ds m = true := by rw [scB, e1, decide_eq_true h]; rfl
        exact ⟨by rw [(k2 h).1]; simp [sbL, this], this⟩)
    go_wp2_with fail
    refine (servable_is _ _ cs ds n m _ _ _ (HV1.out.old BX.out) (HV2.out.old BX.out) e1).mono ?_
    rintro e w1 ⟨rfl, b1⟩
    replace BX := Lib.hid (nextW BX.out b1)
    replace RA := Lib.hid (RA.out.old b1)
    replace RB := Lib.hid (RB.out.old b1)
    clear c1 c2 b1 e1
    obtain ⟨t, ht⟩ : ∃ t, w1.heap.size = t := ⟨_, rfl⟩
    have hst : w.heap.size + 2 ≤ t := by have := RB.out.lt; omega
    have nx := fun (X : World) (o : Obj) => (Below.refl X.heap.size X).alloc (Nat.le_refl _) o
    obtain ⟨wA, hA⟩ : ∃ W, w1.alloc (.cells #[.slice none 0 0] 38) = W := ⟨_, rfl⟩
    obtain ⟨wB, hB⟩ : ∃ W, wA.alloc (.cells #[.bool false] 4) = W := ⟨_, rfl⟩
    obtain ⟨wC, hC⟩ : ∃ W, wB.alloc (.cells #[.int .i64 0] 3) = W := ⟨_, rfl⟩
    have zA : wA.heap.size = t + 1 := by rw [← hA, World.size_alloc, ht]
    have zB : wB.heap.size = t + 2 := by rw [← hB, World.size_alloc, zA]
    have zC : wC.heap.size = t + 3 := by rw [← hC, World.size_alloc, zB]
    have qA : Below w1.heap.size w1 wA := hA ▸ nx _ _
    have qB : Below wA.heap.size wA wB := hB ▸ nx _ _
    have qC : Below wB.heap.size wB wC := hC ▸ nx _ _
    have sA : Row wA t 38 #[.slice none 0 0] := by rw [← hA, ← ht]; exact Row.new _ _ _
    have sB : Row wB (t + 1) 4 #[.bool false] := by rw [← hB, ← zA]; exact Row.new _ _ _
    have sC : Row wC (t + 2) 3 #[.int .i64 0] := by rw [← hC, ← zB]; exact Row.new _ _ _
    have qAll : Below w1.heap.size w1 wC := nextW (nextW qA qB) qC
    have BC := nextW BX.out qAll
    have rA := (RA.out.old qAll)
    have rB := (RB.out.old qAll)
    have K0 : ∀ g W, t + 3 ≤ g → Below wC.heap.size wC W → KB cs ds m w.heap.size t (.slice a1 n cap1) (.slice a2 m cap2) [] g W := fun g W hg hb =>
      ⟨hg, by have := hb.size; omega, rA.old hb, rB.old hb, false, 0, .slice none 0 0, (sB.old qC).old hb, sC.old hb, ((sA.old qB).old qC).old hb, rfl, rfl, rfl⟩
    have HE := Lib.hid (eachServing_any 85 hentBest #[.pointer (some ⟨w.heap.size, 0, none⟩), .pointer (some ⟨w.heap.size + 1, 0, none⟩), .pointer (some ⟨t + 1, 0, none⟩), .pointer (some ⟨t + 2, 0, none⟩), .pointer (some ⟨t, 0, none⟩)] w _ _
      (KB cs ds m w.heap.size t (.slice a1 n cap1) (.slice a2 m cap2)) cs ds n m _ _ wC BC HM.out.1.1 HM.out.2.1 HV1.out HV2.out
      (fun V g g' W W' h hk hg => h.kp hst (zC ▸ hk) hg) (fun g W hg hb => K0 g W (zC ▸ hg) hb)
      (fun p g c q V W hp hS => by
        rw [zC] at hS ⊢
        exact bestStep cs ds n m _ _ w.heap.size t w hst (Nat.le_refl _) HM.out.2.1 HM.out.1.2 HM.out.2.2 _ _ _ HV1.out HV2.out p g c q V W hp hS))
    have c1 := (RA.out.cell 0).trans (show _ = some (Value.slice a1 n cap1) from rfl)
    have c2 := (RB.out.cell 0).trans (show _ = some (Value.slice a2 m cap2) from rfl)
    have d1 := (rA.cell 0).trans (show _ = some (Value.slice a1 n cap1) from rfl)
    have d2 := (rB.cell 0).trans (show _ = some (Value.slice a2 m cap2) from rfl)
    clear K0 rA rB sA sB sC qA qB qC qAll BC zA zB zC nx
    subst hC
    subst hB
    subst hA
    subst ht
    go_wp2_with fail
    refine HE.out.mono ?_
    rintro e w2 ⟨rfl, h2⟩
    obtain ⟨g, hk, hb⟩ := h2.out
    have B2 := Lib.hid hb
    obtain ⟨-, -, -, -, F, L, bv, rF, -, rb, hs⟩ := hk
    have cF := (rF.cell 0).trans (show _ = some (Value.bool F) from rfl)
    have cb := (rb.cell 0).trans (show _ = some bv from rfl)
    clear c1 c2 d1 d2 rF rb hb h2 HE
    by_cases h0 : 0 ≤ leastI cs ds n m []
    · obtain ⟨k1, k2⟩ := HR.out.2 h0
      rw [BSt.some k1] at hs
      obtain ⟨rfl, -, ho, -⟩ := hs
      have hz : w.heap.size ≤ w1.heap.size + 3 := by omega
      have hlen : (sbL cs n ds m).length ≤ 1048576 := by
        have := (mem_all.1 (bestOf_mem k1)).1
        have := HM.out.2.1
        omega
      have HWr := OwI.wr (owns_mono ho hz : OwI w2 w.heap.size bv (sbL cs n ds m)) hlen
      obtain ⟨ba, bn, bc, rfl, -⟩ := ho.form3
      have hnc : bn ≤ bc := by
        obtain ⟨_, _, _, e9, _, _, h9, _⟩ := HWr
        cases e9
        exact h9
      have HW := Lib.hid HWr.clip
      have HK2 := Lib.hid k2
      clear HWr ho k1 k2 h0 hlen
      go_wp2_with fail
      go_quiet ((go_at_call 87; exact quietS (clipI_any _ _ _ _ hnc)))
      clear cF cb
      go_wp2_with fail
      go_ret2
      exact ⟨_, by rw [HK2.out]; rfl, below_drewN B2.out _, HW.out.drewN _⟩
    · obtain ⟨k1, k2, k3⟩ := HR.out.1 (by omega)
      rw [k1, BSt.none rfl] at hs
      obtain ⟨rfl, -, rfl⟩ := hs
      have HK2 := Lib.hid (And.intro k2 k3)
      clear k1 k2 k3 h0
      go_wp2_with fail
      go_quiet ((go_at_call 87; exact quietS (clipI_any none 0 0 _ (Nat.le_refl 0))))
      clear cF cb
      go_wp2_with fail
      go_ret2
      exact ⟨_, by rw [HK2.out.1]; rfl, below_drewN B2.out _, by rw [HK2.out.2]; exact Wr.nil _ _ _⟩

end Go.Proofs.Ythbkimojbbkeiaa
