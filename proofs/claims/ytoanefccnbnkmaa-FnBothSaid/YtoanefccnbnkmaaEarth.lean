/- Contracts: what is measured earthed. -/
import Derived.Test.YtoanefccnbnkmaaRatio
namespace Go.Proofs.Ytoanefccnbnkmaa
open Go.RowKit

/-- Two boxes of two numbers. -/
theorem boxes2 (w : World) (a b c d : Int) (s t : TypeId) :
    Below w.heap.size w ((w.alloc (.cells #[.int .i64 a, .int .i64 b] s)).alloc (.cells #[.int .i64 c, .int .i64 d] t)) ∧
    Row ((w.alloc (.cells #[.int .i64 a, .int .i64 b] s)).alloc (.cells #[.int .i64 c, .int .i64 d] t)) w.heap.size s #[.int .i64 a, .int .i64 b] ∧
    Row ((w.alloc (.cells #[.int .i64 a, .int .i64 b] s)).alloc (.cells #[.int .i64 c, .int .i64 d] t)) (w.heap.size + 1) t #[.int .i64 c, .int .i64 d] := by
  have r0 := Row.new w #[.int .i64 a, .int .i64 b] s
  have n0 := (Below.refl (w.alloc (.cells #[.int .i64 a, .int .i64 b] s)).heap.size _).alloc (Nat.le_refl _) (.cells #[.int .i64 c, .int .i64 d] t)
  have r1 := Row.new (w.alloc (.cells #[.int .i64 a, .int .i64 b] s)) #[.int .i64 c, .int .i64 d] t
  rw [World.size_alloc] at r1
  exact ⟨nextW ((Below.refl w.heap.size w).alloc (Nat.le_refl _) _) n0, r0.old n0, r1⟩

def bdT (f s : Int) : Int := if f + s = 0 then 0 else f * s
theorem bd_er {r s f : Int} : bdT f s + r * erL s f = erT r s f := by
  unfold bdT erL erT
  split
  · omega
  · exact Int.add_comm _ _
theorem beside_b (f s : Int) (w : World) (hs : 0 ≤ s ∧ s ≤ 8000) (hf : 0 ≤ f ∧ f ≤ 1000) :
    Calls Try.prog 85 #[.int .i64 f, .int .i64 s] w fun e w' => e = .returned (.agg #[.int .i64 (bdT f s), .int .i64 (erL s f)]) ∧ Below w.heap.size w w' := by
  by_cases e : f + s = 0
  · have HE : Hid (bdT f s = 0 ∧ erL s f = 1) := Lib.hid (by unfold bdT erL; rw [if_pos e, if_pos e]; exact ⟨rfl, rfl⟩)
    go_enter Try.func85, Try.ntmps85
    go_wp2
    try simp only [Exit.inBlock, Exit.then]
    refine bodyPost_ret (results_cell1 rfl _ _ w.heap.size _ _ rfl (Row.new w _ _) ratio_agg ratio_size) rfl ?_
    exact ⟨by rw [HE.out.1, HE.out.2], (Below.refl _ w).alloc (Nat.le_refl _) _⟩
  · have HE : Hid (bdT f s = f * s ∧ erL s f = f + s) := Lib.hid (by unfold bdT erL; rw [if_neg e, if_neg e]; exact ⟨rfl, rfl⟩)
    have h2 := mul_bd hf.1 hf.2 hs.1 hs.2
    obtain ⟨y1, y2⟩ := h2
    have y3 : f * s ≤ 8000000 := by omega
    go_enter Try.func85, Try.ntmps85
    go_wp2
    try simp only [Exit.inBlock, Exit.then]
    refine bodyPost_ret (results_cell1 rfl _ _ w.heap.size _ _ rfl (Row.new w _ _) ratio_agg ratio_size) rfl ?_
    exact ⟨by rw [HE.out.1, HE.out.2], (Below.refl _ w).alloc (Nat.le_refl _) _⟩

theorem plus_b (t l m : Int) (w : World) (ht : 0 ≤ t ∧ t ≤ 8000000) (hl : 1 ≤ l ∧ l ≤ 9000) (hm : 0 ≤ m ∧ m ≤ 8000) :
    Calls Try.prog 86 #[.agg #[.int .i64 t, .int .i64 l], .int .i64 m] w fun e w' => e = .returned (.agg #[.int .i64 (rdT (t + m * l) l), .int .i64 (rdL (t + m * l) l)]) ∧ Below w.heap.size w w' := by
  obtain ⟨b0, r0, r1⟩ := boxes2 w t l 0 0 31 31
  have k0 := r0.cell 0
  have k1 := r0.cell 1
  have R1 := Lib.hid r1
  have B0 := Lib.hid b0
  have h2 := mul_bd hm.1 hm.2 (b := l) (B := 9000) (by omega) hl.2
  obtain ⟨y1, y2⟩ := h2
  obtain ⟨Y, hY⟩ : ∃ Y, m * l = Y := ⟨_, rfl⟩
  rw [hY] at y1 y2 ⊢
  have y3 : Y ≤ 72000000 := by omega
  clear y2 b0 r0 r1
  go_enter Try.func86, Try.ntmps86
  go_wp2_with fail
  refine (reduced_b (t + Y) l _ ⟨by omega, by omega⟩ ⟨hl.1, by omega⟩).mono ?_
  rintro e w1 ⟨rfl, b1⟩
  have R2 := Lib.hid (R1.out.old b1)
  have B1 := Lib.hid (nextW B0.out b1)
  have c0 : w1.cell? ⟨w.heap.size + 1, 0, none⟩ = some (.int .i64 0) := by rw [R2.out.cell]; rfl
  have c1 : w1.cell? ⟨w.heap.size + 1, 1, none⟩ = some (.int .i64 0) := by rw [R2.out.cell]; rfl
  have z0 := R2.out.frozen 0
  have z1 := R2.out.frozen 1
  clear b1 k0 k1
  go_wp2
  try simp only [Exit.inBlock, Exit.then]
  refine bodyPost_ret (results_cell1 rfl _ _ (w.heap.size + 1) _ _ rfl ((R2.out.set 0 _).set 1 _) ratio_agg ratio_size) rfl ?_
  exact ⟨rfl, set2B B1.out (by omega) _ _⟩

/-- What is measured at a fault, the far end earthed: from the near end, and from the far end. -/
def feT (cs : List Int) (n : Nat) (m f : Int) : Int := if fvB cs n m f then eaT (ohmsI cs n m) (allI cs n - ohmsI cs n m) f else 0
def feL (cs : List Int) (n : Nat) (m f : Int) : Int := if fvB cs n m f then eaL (ohmsI cs n m) (allI cs n - ohmsI cs n m) f else 0
def faT (cs : List Int) (n : Nat) (m f : Int) : Int := if fvB cs n m f then eaT (allI cs n - ohmsI cs n m) (ohmsI cs n m) f else 0
def faL (cs : List Int) (n : Nat) (m f : Int) : Int := if fvB cs n m f then eaL (allI cs n - ohmsI cs n m) (ohmsI cs n m) f else 0

set_option maxHeartbeats 1000000 in
theorem specFaultEarthed_b (v : Value) (m f : Int) (cs : List Int) (n hi : Nat) (w : World) (hv : SlF 3 w hi v cs n) :
    Calls Try.prog 44 #[v, .agg #[.int .i64 m, .int .i64 f]] w fun e w' => e = .returned (.tuple #[.agg #[.int .i64 (feT cs n m f), .int .i64 (feL cs n m f)], .bool (fvB cs n m f)]) ∧ Below w.heap.size w w' := by
  obtain ⟨b0, r0, r1⟩ := boxes2 w m f 0 0 41 31
  have V0 := Lib.hid (hv.old b0)
  have B0 := Lib.hid b0
  have R0 := Lib.hid r0
  have R1 := Lib.hid r1
  have k0 := r0.cell 0
  have k1 := r0.cell 1
  clear hv b0 r0 r1
  cases h1 : fvB cs n m f with
  | false =>
    have HO : Hid (feT cs n m f = 0 ∧ feL cs n m f = 0) := Lib.hid (by unfold feT feL; rw [h1]; exact ⟨rfl, rfl⟩)
    go_enter Try.func44, Try.ntmps44
    go_wp2_with fail
    refine (specFaultValid_is _ m f cs n hi _ V0.out h1).mono ?_
    rintro e w1 ⟨rfl, b1⟩
    have R2 := Lib.hid (R1.out.old b1)
    have B1 := Lib.hid (nextW B0.out b1)
    have c0 : w1.cell? ⟨w.heap.size + 1, 0, none⟩ = some (.int .i64 0) := by rw [R2.out.cell]; rfl
    have c1 : w1.cell? ⟨w.heap.size + 1, 1, none⟩ = some (.int .i64 0) := by rw [R2.out.cell]; rfl
    have z0 := R2.out.frozen 0
    have z1 := R2.out.frozen 1
    clear b1 k0 k1
    go_wp2
    try simp only [Exit.inBlock, Exit.then]
    refine bodyPost_ret (results_cell2 rfl _ _ (w.heap.size + 1) _ _ rfl ((R2.out.set 0 _).set 1 _) ratio_agg ratio_size) rfl ?_
    exact ⟨by rw [HO.out.1, HO.out.2]; rfl, set2B B1.out (by omega) _ _⟩
  | true =>
    have hs := sides_of h1
    have hf := (fvB_cab h1).2.2
    have HO : Hid (feT cs n m f = eaT (ohmsI cs n m) (allI cs n - ohmsI cs n m) f ∧ feL cs n m f = eaL (ohmsI cs n m) (allI cs n - ohmsI cs n m) f) := Lib.hid (by unfold feT feL; rw [h1]; exact ⟨rfl, rfl⟩)
    have o1 : 0 ≤ ohmsI cs n m := by omega
    have o2 : ohmsI cs n m ≤ 8000 := by omega
    have o3 : 0 ≤ allI cs n - ohmsI cs n m := by omega
    have o4 : allI cs n - ohmsI cs n m ≤ 8000 := by omega
    obtain ⟨f1, f2⟩ := hf
    clear hs
    go_enter Try.func44, Try.ntmps44
    go_wp2_with fail
    refine (specFaultValid_is _ m f cs n hi _ V0.out h1).mono ?_
    rintro e w1 ⟨rfl, b1⟩
    have B1 := Lib.hid (nextW B0.out b1)
    have V1 := Lib.hid (V0.out.old b1)
    have R1' := Lib.hid (R1.out.old b1)
    replace k0 := cellB k0 b1
    replace k1 := cellB k1 b1
    clear b1
    go_wp2_with fail
    refine (l3Sides_b _ m cs n hi _ V1.out).mono ?_
    rintro e w2 ⟨rfl, b2⟩
    have B2 := Lib.hid (nextW B1.out b2)
    have R2 := Lib.hid (R1'.out.old b2)
    replace k1 := cellB k1 b2
    clear b2 k0
    revert HO o1 o2 o3 o4
    generalize ohmsI cs n m = R
    generalize allI cs n - R = S
    intro HO o1 o2 o3 o4
    go_wp2_with fail
    refine (l3Earthed_b R S f _ ⟨o1, o2⟩ ⟨o3, o4⟩ ⟨f1, f2⟩).mono ?_
    rintro e w3 ⟨rfl, b3⟩
    have R3 := Lib.hid (R2.out.old b3)
    have B3 := Lib.hid (nextW B2.out b3)
    have c0 : w3.cell? ⟨w.heap.size + 1, 0, none⟩ = some (.int .i64 0) := by rw [R3.out.cell]; rfl
    have c1 : w3.cell? ⟨w.heap.size + 1, 1, none⟩ = some (.int .i64 0) := by rw [R3.out.cell]; rfl
    have z0 := R3.out.frozen 0
    have z1 := R3.out.frozen 1
    clear b3 k1
    go_wp2
    try simp only [Exit.inBlock, Exit.then]
    refine bodyPost_ret (results_cell2 rfl _ _ (w.heap.size + 1) _ _ rfl ((R3.out.set 0 _).set 1 _) ratio_agg ratio_size) rfl ?_
    exact ⟨by rw [HO.out.1, HO.out.2]; rfl, set2B B3.out (by omega) _ _⟩

set_option maxHeartbeats 1000000 in
theorem implFaultEarthed_b (v : Value) (m f : Int) (cs : List Int) (n hi : Nat) (w : World) (hv : SlF 3 w hi v cs n) :
    Calls Try.prog 45 #[v, .agg #[.int .i64 m, .int .i64 f]] w fun e w' => e = .returned (.tuple #[.agg #[.int .i64 (feT cs n m f), .int .i64 (feL cs n m f)], .bool (fvB cs n m f)]) ∧ Below w.heap.size w w' := by
  obtain ⟨b0, r0, r1⟩ := boxes2 w m f 0 0 41 31
  have V0 := Lib.hid (hv.old b0)
  have B0 := Lib.hid b0
  have R0 := Lib.hid r0
  have R1 := Lib.hid r1
  have k0 := r0.cell 0
  have k1 := r0.cell 1
  clear hv b0 r0 r1
  cases h1 : fvB cs n m f with
  | false =>
    have HO : Hid (feT cs n m f = 0 ∧ feL cs n m f = 0) := Lib.hid (by unfold feT feL; rw [h1]; exact ⟨rfl, rfl⟩)
    go_enter Try.func45, Try.ntmps45
    go_wp2_with fail
    refine (implFaultValid_is _ m f cs n hi _ V0.out h1).mono ?_
    rintro e w1 ⟨rfl, b1⟩
    have R2 := Lib.hid (R1.out.old b1)
    have B1 := Lib.hid (nextW B0.out b1)
    have c0 : w1.cell? ⟨w.heap.size + 1, 0, none⟩ = some (.int .i64 0) := by rw [R2.out.cell]; rfl
    have c1 : w1.cell? ⟨w.heap.size + 1, 1, none⟩ = some (.int .i64 0) := by rw [R2.out.cell]; rfl
    have z0 := R2.out.frozen 0
    have z1 := R2.out.frozen 1
    clear b1 k0 k1
    go_wp2
    try simp only [Exit.inBlock, Exit.then]
    refine bodyPost_ret (results_cell2 rfl _ _ (w.heap.size + 1) _ _ rfl ((R2.out.set 0 _).set 1 _) ratio_agg ratio_size) rfl ?_
    exact ⟨by rw [HO.out.1, HO.out.2]; rfl, set2B B1.out (by omega) _ _⟩
  | true =>
    have hs := sides_of h1
    have hf := (fvB_cab h1).2.2
    have HO : Hid (feT cs n m f = eaT (ohmsI cs n m) (allI cs n - ohmsI cs n m) f ∧ feL cs n m f = eaL (ohmsI cs n m) (allI cs n - ohmsI cs n m) f) := Lib.hid (by unfold feT feL; rw [h1]; exact ⟨rfl, rfl⟩)
    have o1 : 0 ≤ ohmsI cs n m := by omega
    have o2 : ohmsI cs n m ≤ 8000 := by omega
    have o3 : 0 ≤ allI cs n - ohmsI cs n m := by omega
    have o4 : allI cs n - ohmsI cs n m ≤ 8000 := by omega
    obtain ⟨f1, f2⟩ := hf
    clear hs
    go_enter Try.func45, Try.ntmps45
    go_wp2_with fail
    refine (implFaultValid_is _ m f cs n hi _ V0.out h1).mono ?_
    rintro e w1 ⟨rfl, b1⟩
    have B1 := Lib.hid (nextW B0.out b1)
    have V1 := Lib.hid (V0.out.old b1)
    have R1' := Lib.hid (R1.out.old b1)
    replace k0 := cellB k0 b1
    replace k1 := cellB k1 b1
    clear b1
    go_wp2_with fail
    refine (sides_b _ m f cs n hi _ V1.out).mono ?_
    rintro e w2 ⟨rfl, b2⟩
    have B2 := Lib.hid (nextW B1.out b2)
    have R2 := Lib.hid (R1'.out.old b2)
    replace k1 := cellB k1 b2
    clear b2 k0
    revert HO o1 o2 o3 o4
    generalize ohmsI cs n m = R
    generalize allI cs n - R = S
    intro HO o1 o2 o3 o4
    have hx := er_bd (r := R) (s := S) (f := f) ⟨o1, o2⟩ ⟨o3, o4⟩ ⟨f1, f2⟩
    have hy : 0 ≤ bdT f S ∧ bdT f S ≤ 8000000 := by
      have h2 := mul_bd f1 f2 o3 o4
      unfold bdT
      split <;> omega
    go_wp2_with fail
    refine (beside_b f S _ ⟨o3, o4⟩ ⟨f1, f2⟩).mono ?_
    rintro e w3a ⟨rfl, b3a⟩
    go_wp2_with fail
    refine (plus_b (bdT f S) (erL S f) R _ hy ⟨hx.2.2.1, hx.2.2.2⟩ ⟨o1, o2⟩).mono ?_
    rintro e w3 ⟨rfl, b3b⟩
    have b3 := nextW b3a b3b
    clear b3a b3b hx hy
    rw [bd_er]
    have R3 := Lib.hid (R2.out.old b3)
    have B3 := Lib.hid (nextW B2.out b3)
    have c0 : w3.cell? ⟨w.heap.size + 1, 0, none⟩ = some (.int .i64 0) := by rw [R3.out.cell]; rfl
    have c1 : w3.cell? ⟨w.heap.size + 1, 1, none⟩ = some (.int .i64 0) := by rw [R3.out.cell]; rfl
    have z0 := R3.out.frozen 0
    have z1 := R3.out.frozen 1
    clear b3 k1
    go_wp2
    try simp only [Exit.inBlock, Exit.then]
    refine bodyPost_ret (results_cell2 rfl _ _ (w.heap.size + 1) _ _ rfl ((R3.out.set 0 _).set 1 _) ratio_agg ratio_size) rfl ?_
    exact ⟨by rw [HO.out.1, HO.out.2]; rfl, set2B B3.out (by omega) _ _⟩

set_option maxHeartbeats 1000000 in
theorem specFaultFar_b (v : Value) (m f : Int) (cs : List Int) (n hi : Nat) (w : World) (hv : SlF 3 w hi v cs n) :
    Calls Try.prog 47 #[v, .agg #[.int .i64 m, .int .i64 f]] w fun e w' => e = .returned (.tuple #[.agg #[.int .i64 (faT cs n m f), .int .i64 (faL cs n m f)], .bool (fvB cs n m f)]) ∧ Below w.heap.size w w' := by
  obtain ⟨b0, r0, r1⟩ := boxes2 w m f 0 0 41 31
  have V0 := Lib.hid (hv.old b0)
  have B0 := Lib.hid b0
  have R0 := Lib.hid r0
  have R1 := Lib.hid r1
  have k0 := r0.cell 0
  have k1 := r0.cell 1
  clear hv b0 r0 r1
  cases h1 : fvB cs n m f with
  | false =>
    have HO : Hid (faT cs n m f = 0 ∧ faL cs n m f = 0) := Lib.hid (by unfold faT faL; rw [h1]; exact ⟨rfl, rfl⟩)
    go_enter Try.func47, Try.ntmps47
    go_wp2_with fail
    refine (specFaultValid_is _ m f cs n hi _ V0.out h1).mono ?_
    rintro e w1 ⟨rfl, b1⟩
    have R2 := Lib.hid (R1.out.old b1)
    have B1 := Lib.hid (nextW B0.out b1)
    have c0 : w1.cell? ⟨w.heap.size + 1, 0, none⟩ = some (.int .i64 0) := by rw [R2.out.cell]; rfl
    have c1 : w1.cell? ⟨w.heap.size + 1, 1, none⟩ = some (.int .i64 0) := by rw [R2.out.cell]; rfl
    have z0 := R2.out.frozen 0
    have z1 := R2.out.frozen 1
    clear b1 k0 k1
    go_wp2
    try simp only [Exit.inBlock, Exit.then]
    refine bodyPost_ret (results_cell2 rfl _ _ (w.heap.size + 1) _ _ rfl ((R2.out.set 0 _).set 1 _) ratio_agg ratio_size) rfl ?_
    exact ⟨by rw [HO.out.1, HO.out.2]; rfl, set2B B1.out (by omega) _ _⟩
  | true =>
    have hs := sides_of h1
    have hf := (fvB_cab h1).2.2
    have HO : Hid (faT cs n m f = eaT (allI cs n - ohmsI cs n m) (ohmsI cs n m) f ∧ faL cs n m f = eaL (allI cs n - ohmsI cs n m) (ohmsI cs n m) f) := Lib.hid (by unfold faT faL; rw [h1]; exact ⟨rfl, rfl⟩)
    have o1 : 0 ≤ ohmsI cs n m := by omega
    have o2 : ohmsI cs n m ≤ 8000 := by omega
    have o3 : 0 ≤ allI cs n - ohmsI cs n m := by omega
    have o4 : allI cs n - ohmsI cs n m ≤ 8000 := by omega
    obtain ⟨f1, f2⟩ := hf
    clear hs
    go_enter Try.func47, Try.ntmps47
    go_wp2_with fail
    refine (specFaultValid_is _ m f cs n hi _ V0.out h1).mono ?_
    rintro e w1 ⟨rfl, b1⟩
    have B1 := Lib.hid (nextW B0.out b1)
    have V1 := Lib.hid (V0.out.old b1)
    have R1' := Lib.hid (R1.out.old b1)
    replace k0 := cellB k0 b1
    replace k1 := cellB k1 b1
    clear b1
    go_wp2_with fail
    refine (l3Sides_b _ m cs n hi _ V1.out).mono ?_
    rintro e w2 ⟨rfl, b2⟩
    have B2 := Lib.hid (nextW B1.out b2)
    have R2 := Lib.hid (R1'.out.old b2)
    replace k1 := cellB k1 b2
    clear b2 k0
    revert HO o1 o2 o3 o4
    generalize ohmsI cs n m = R
    generalize allI cs n - R = S
    intro HO o1 o2 o3 o4
    go_wp2_with fail
    refine (l3Earthed_b S R f _ ⟨o3, o4⟩ ⟨o1, o2⟩ ⟨f1, f2⟩).mono ?_
    rintro e w3 ⟨rfl, b3⟩
    have R3 := Lib.hid (R2.out.old b3)
    have B3 := Lib.hid (nextW B2.out b3)
    have c0 : w3.cell? ⟨w.heap.size + 1, 0, none⟩ = some (.int .i64 0) := by rw [R3.out.cell]; rfl
    have c1 : w3.cell? ⟨w.heap.size + 1, 1, none⟩ = some (.int .i64 0) := by rw [R3.out.cell]; rfl
    have z0 := R3.out.frozen 0
    have z1 := R3.out.frozen 1
    clear b3 k1
    go_wp2
    try simp only [Exit.inBlock, Exit.then]
    refine bodyPost_ret (results_cell2 rfl _ _ (w.heap.size + 1) _ _ rfl ((R3.out.set 0 _).set 1 _) ratio_agg ratio_size) rfl ?_
    exact ⟨by rw [HO.out.1, HO.out.2]; rfl, set2B B3.out (by omega) _ _⟩

set_option maxHeartbeats 1000000 in
theorem implFaultFar_b (v : Value) (m f : Int) (cs : List Int) (n hi : Nat) (w : World) (hv : SlF 3 w hi v cs n) :
    Calls Try.prog 48 #[v, .agg #[.int .i64 m, .int .i64 f]] w fun e w' => e = .returned (.tuple #[.agg #[.int .i64 (faT cs n m f), .int .i64 (faL cs n m f)], .bool (fvB cs n m f)]) ∧ Below w.heap.size w w' := by
  obtain ⟨b0, r0, r1⟩ := boxes2 w m f 0 0 41 31
  have V0 := Lib.hid (hv.old b0)
  have B0 := Lib.hid b0
  have R0 := Lib.hid r0
  have R1 := Lib.hid r1
  have k0 := r0.cell 0
  have k1 := r0.cell 1
  clear hv b0 r0 r1
  cases h1 : fvB cs n m f with
  | false =>
    have HO : Hid (faT cs n m f = 0 ∧ faL cs n m f = 0) := Lib.hid (by unfold faT faL; rw [h1]; exact ⟨rfl, rfl⟩)
    go_enter Try.func48, Try.ntmps48
    go_wp2_with fail
    refine (implFaultValid_is _ m f cs n hi _ V0.out h1).mono ?_
    rintro e w1 ⟨rfl, b1⟩
    have R2 := Lib.hid (R1.out.old b1)
    have B1 := Lib.hid (nextW B0.out b1)
    have c0 : w1.cell? ⟨w.heap.size + 1, 0, none⟩ = some (.int .i64 0) := by rw [R2.out.cell]; rfl
    have c1 : w1.cell? ⟨w.heap.size + 1, 1, none⟩ = some (.int .i64 0) := by rw [R2.out.cell]; rfl
    have z0 := R2.out.frozen 0
    have z1 := R2.out.frozen 1
    clear b1 k0 k1
    go_wp2
    try simp only [Exit.inBlock, Exit.then]
    refine bodyPost_ret (results_cell2 rfl _ _ (w.heap.size + 1) _ _ rfl ((R2.out.set 0 _).set 1 _) ratio_agg ratio_size) rfl ?_
    exact ⟨by rw [HO.out.1, HO.out.2]; rfl, set2B B1.out (by omega) _ _⟩
  | true =>
    have hs := sides_of h1
    have hf := (fvB_cab h1).2.2
    have HO : Hid (faT cs n m f = eaT (allI cs n - ohmsI cs n m) (ohmsI cs n m) f ∧ faL cs n m f = eaL (allI cs n - ohmsI cs n m) (ohmsI cs n m) f) := Lib.hid (by unfold faT faL; rw [h1]; exact ⟨rfl, rfl⟩)
    have o1 : 0 ≤ ohmsI cs n m := by omega
    have o2 : ohmsI cs n m ≤ 8000 := by omega
    have o3 : 0 ≤ allI cs n - ohmsI cs n m := by omega
    have o4 : allI cs n - ohmsI cs n m ≤ 8000 := by omega
    obtain ⟨f1, f2⟩ := hf
    clear hs
    go_enter Try.func48, Try.ntmps48
    go_wp2_with fail
    refine (implFaultValid_is _ m f cs n hi _ V0.out h1).mono ?_
    rintro e w1 ⟨rfl, b1⟩
    have B1 := Lib.hid (nextW B0.out b1)
    have V1 := Lib.hid (V0.out.old b1)
    have R1' := Lib.hid (R1.out.old b1)
    replace k0 := cellB k0 b1
    replace k1 := cellB k1 b1
    clear b1
    go_wp2_with fail
    refine (sides_b _ m f cs n hi _ V1.out).mono ?_
    rintro e w2 ⟨rfl, b2⟩
    have B2 := Lib.hid (nextW B1.out b2)
    have R2 := Lib.hid (R1'.out.old b2)
    replace k1 := cellB k1 b2
    clear b2 k0
    revert HO o1 o2 o3 o4
    generalize ohmsI cs n m = R
    generalize allI cs n - R = S
    intro HO o1 o2 o3 o4
    have hx := er_bd (r := S) (s := R) (f := f) ⟨o3, o4⟩ ⟨o1, o2⟩ ⟨f1, f2⟩
    have hy : 0 ≤ bdT f R ∧ bdT f R ≤ 8000000 := by
      have h2 := mul_bd f1 f2 o1 o2
      unfold bdT
      split <;> omega
    go_wp2_with fail
    refine (beside_b f R _ ⟨o1, o2⟩ ⟨f1, f2⟩).mono ?_
    rintro e w3a ⟨rfl, b3a⟩
    go_wp2_with fail
    refine (plus_b (bdT f R) (erL R f) S _ hy ⟨hx.2.2.1, hx.2.2.2⟩ ⟨o3, o4⟩).mono ?_
    rintro e w3 ⟨rfl, b3b⟩
    have b3 := nextW b3a b3b
    clear b3a b3b hx hy
    rw [bd_er]
    have R3 := Lib.hid (R2.out.old b3)
    have B3 := Lib.hid (nextW B2.out b3)
    have c0 : w3.cell? ⟨w.heap.size + 1, 0, none⟩ = some (.int .i64 0) := by rw [R3.out.cell]; rfl
    have c1 : w3.cell? ⟨w.heap.size + 1, 1, none⟩ = some (.int .i64 0) := by rw [R3.out.cell]; rfl
    have z0 := R3.out.frozen 0
    have z1 := R3.out.frozen 1
    clear b3 k1
    go_wp2
    try simp only [Exit.inBlock, Exit.then]
    refine bodyPost_ret (results_cell2 rfl _ _ (w.heap.size + 1) _ _ rfl ((R3.out.set 0 _).set 1 _) ratio_agg ratio_size) rfl ?_
    exact ⟨by rw [HO.out.1, HO.out.2]; rfl, set2B B3.out (by omega) _ _⟩

end Go.Proofs.Ytoanefccnbnkmaa
