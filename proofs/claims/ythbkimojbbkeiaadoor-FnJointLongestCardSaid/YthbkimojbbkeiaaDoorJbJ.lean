/- Contracts: JointBest, JointFewest of the program. -/
import Derived.Test.YthbkimojbbkeiaaDoorJbI
namespace Go.Proofs.YthbkimojbbkeiaaDoor
open Go.RowKit

theorem best_ok {cs : List Int} {n : Nat} {kind miles : Int} (h : jbB cs n kind miles = true) : n ≤ 10 ∧ bestJ cs n kind miles < 1024 ∧ bitsL (bestJ cs n kind miles) 10 = jbL cs n kind miles := by
  have hne : bestJ cs n kind miles ≠ 0 := by unfold jbB at h; exact of_decide_eq_true h
  have hok : jOk cs n miles = true := by
    cases e : jOk cs n miles with
    | true => rfl
    | false => exact absurd (by simp [bestJ, e]) hne
  have hn : n ≤ 10 := by
    unfold jOk at hok
    rw [Bool.and_eq_true] at hok
    have := (spB_true.1 hok.1).1
    omega
  have hlt := bestJ_lt (cs := cs) (n := n) (kind := kind) (miles := miles)
  exact ⟨hn, Nat.lt_of_lt_of_le hlt (pow10 hn), bits_ten hlt hn⟩

theorem implJointBest_b (v : Value) (kind miles : Int) (cs : List Int) (n hi : Nat) (w : World) (hv : SlF 2 w hi v cs n) (hT : Tb w) :
    Calls Tryd.prog 18 #[v, .int .i64 kind, .int .i64 miles] w fun e w' => ∃ v', e = .returned (.tuple #[v', .bool (jbB cs n kind miles)]) ∧ Hid (Below w.heap.size w w') ∧ Hid (Wr w' w.heap.size w'.heap.size v' (jbL cs n kind miles)) := by
  have HV := Lib.hid hv
  have HT := Lib.hid hT
  obtain ⟨a, cap, rfl, -⟩ := hv
  obtain ⟨b, hb⟩ : ∃ b, bestJ cs n kind miles = b := ⟨_, rfl⟩
  have HB := Lib.hid hb
  clear hT
  go_enter Tryd.func18, Tryd.ntmps18
  go_wp2_with fail
  refine (bestJoint_b _ kind miles cs n _ _ HV.out HT.out).mono ?_
  rintro e w1 ⟨bm, rfl, b1⟩
  rw [hb]
  obtain ⟨ba, x0, x1⟩ := boxJ w1 b bm 50
  have B1 := Lib.hid (nextW b1.out ba)
  have T1 := Lib.hid ((HT.out.old b1.out).old ba)
  clear hb ba
  cases hjb : jbB cs n kind miles with
  | false =>
    have HJB := Lib.hid hjb
    have HR : Hid (jbL cs n kind miles = []) := Lib.hid (by
      have : bestJ cs n kind miles = 0 := by unfold jbB at hjb; exact Decidable.byContradiction fun h => by simp [h] at hjb
      rw [jbL, this, bitsL_zero])
    go_wp2_with fail
    go_ret2
    exact ⟨_, by rw [HJB.out]; rfl, B1, by rw [HR.out]; exact Lib.hid (Wr.nil _ _ _)⟩
  | true =>
    have HJB := Lib.hid hjb
    obtain ⟨hn10, hb10, hbl⟩ := best_ok hjb
    rw [HB.out] at hb10 hbl
    have HL := Lib.hid hbl
    clear hbl
    go_wp2_with fail
    refine (list_b b bm _ hb10 T1.out).mono ?_
    rintro e w2 ⟨v2, rfl, o2, b2⟩
    have B2 := Lib.hid (nextW B1.out b2.out)
    have ow := o2.out
    rw [HL.out] at ow
    have hlen : (jbL cs n kind miles).length ≤ 1048576 := by
      have : (jbL cs n kind miles).length ≤ n := bits_10
      omega
    have W2 := Lib.hid ((ow.wr hlen).mono B1.out.size (Nat.le_refl _))
    clear o2 b2 ow
    go_wp2_with fail
    go_ret2
    exact ⟨_, by rw [HJB.out]; rfl, B2, W2⟩

theorem implJointFewest_b (v : Value) (kind miles : Int) (cs : List Int) (n hi : Nat) (w : World) (hv : SlF 2 w hi v cs n) (hT : Tb w) :
    Calls Tryd.prog 9 #[v, .int .i64 kind, .int .i64 miles] w fun e w' => e = .returned (.int .i64 (jfI cs n kind miles)) ∧ Below w.heap.size w w' := by
  have HV := Lib.hid hv
  have HT := Lib.hid hT
  obtain ⟨a, cap, rfl, -⟩ := hv
  obtain ⟨b, hb⟩ : ∃ b, bestJ cs n kind miles = b := ⟨_, rfl⟩
  have HB := Lib.hid hb
  have HR := Lib.hid (jf_of (cs := cs) (n := n) (kind := kind) (miles := miles))
  clear hT
  go_enter Tryd.func9, Tryd.ntmps9
  go_wp2_with fail
  refine (bestJoint_b _ kind miles cs n _ _ HV.out HT.out).mono ?_
  rintro e w1 ⟨bm, rfl, b1⟩
  rw [hb]
  obtain ⟨ba, x0, x1⟩ := boxJ w1 b bm 50
  have B1 := Lib.hid (nextW b1.out ba)
  clear hb ba
  cases hjb : jbB cs n kind miles with
  | false =>
    rw [hjb] at HR
    go_wp2_with fail
    go_ret
    exact ⟨by rw [HR.out]; rfl, B1.out⟩
  | true =>
    obtain ⟨hn10, hb10, hbl⟩ := best_ok hjb
    rw [HB.out] at hb10 hbl
    rw [hjb] at HR
    have HR2 : Hid (jfI cs n kind miles = (pcN b : Int) - 1) := Lib.hid (by rw [HR.out, pcN, hbl]; rfl)
    have hpc : pcN b ≤ 10 := bitsL_len
    clear hbl HR
    go_wp2_with fail
    refine (onesCount_b b hb10 _).mono ?_
    rintro e _ ⟨rfl, rfl⟩
    go_wp2_with fail
    go_ret
    exact ⟨by rw [HR2.out]; rfl, B1.out⟩

end Go.Proofs.YthbkimojbbkeiaaDoor
