/- Contracts for the sort: cmp.Compare, cmp.Or of two. -/
import Derived.Test.YthbkimojbbkeiaaDoorTkC
namespace Go.Proofs.YthbkimojbbkeiaaDoor
open Go.RowKit

/-- What cmp.Compare answers. -/
def cmpI (a b : Int) : Int := if a < b then -1 else if b < a then 1 else 0
theorem isNaN_any (a : Int) (w : World) : Calls Tryd.prog 55 #[.int .i64 a] w fun e w' => e = .returned (.bool false) ∧ w = w' := by
  have h : (a != a) = false := by simp
  go_enter Tryd.func55, Tryd.ntmps55
  go_wp2
  go_ret
  exact ⟨rfl, rfl⟩
theorem compare_any (a b : Int) (w : World) : Calls Tryd.prog 36 #[.int .i64 a, .int .i64 b] w fun e w' => e = .returned (.int .i64 (cmpI a b)) ∧ w = w' := by
  by_cases h1 : a < b
  · have t1 : decide (a < b) = true := decide_eq_true h1
    have HR : Hid (cmpI a b = -1) := Lib.hid (by simp [cmpI, h1])
    go_enter Tryd.func36, Tryd.ntmps36
    go_wp2_with fail
    refine (isNaN_any _ _).mono ?_
    rintro e _ ⟨rfl, rfl⟩
    go_wp2_with fail
    refine (isNaN_any _ _).mono ?_
    rintro e _ ⟨rfl, rfl⟩
    go_wp2
    go_ret
    exact ⟨by rw [HR.out]; rfl, rfl⟩
  · have t1 : decide (a < b) = false := decide_eq_false h1
    by_cases h2 : b < a
    · have t2 : decide (b < a) = true := decide_eq_true h2
      have HR : Hid (cmpI a b = 1) := Lib.hid (by simp [cmpI, h1, h2])
      go_enter Tryd.func36, Tryd.ntmps36
      go_wp2_with fail
      refine (isNaN_any _ _).mono ?_
      rintro e _ ⟨rfl, rfl⟩
      go_wp2_with fail
      refine (isNaN_any _ _).mono ?_
      rintro e _ ⟨rfl, rfl⟩
      go_wp2
      go_ret
      exact ⟨by rw [HR.out]; rfl, rfl⟩
    · have t2 : decide (b < a) = false := decide_eq_false h2
      have HR : Hid (cmpI a b = 0) := Lib.hid (by simp [cmpI, h1, h2])
      go_enter Tryd.func36, Tryd.ntmps36
      go_wp2_with fail
      refine (isNaN_any _ _).mono ?_
      rintro e _ ⟨rfl, rfl⟩
      go_wp2_with fail
      refine (isNaN_any _ _).mono ?_
      rintro e _ ⟨rfl, rfl⟩
      go_wp2
      go_ret
      exact ⟨by rw [HR.out]; rfl, rfl⟩

/-- What cmp.Or of two answers. -/
def orI (x y : Int) : Int := if x = 0 then y else x
theorem or_any (x y : Int) (g : Nat) (w : World) (h0 : w.cell? ⟨g, 0, none⟩ = some (.int .i64 x)) (h1 : w.cell? ⟨g, 1, none⟩ = some (.int .i64 y)) :
    Calls Tryd.prog 35 #[.slice (some ⟨g, 0, none⟩) 2 2] w fun e w' => e = .returned (.int .i64 (orI x y)) ∧ w = w' := by
  go_enter Tryd.func35, Tryd.ntmps35
  go_wp2
  go_loop [8] (fun i => (i = .int .i64 0) ∨ (i = .int .i64 1 ∧ x = 0) ∨ (i = .int .i64 2 ∧ x = 0 ∧ y = 0)) (fun i => 2 - (intOf i).toNat)
  case atStart => exact .inl rfl
  case round =>
    rcases hrel with rfl | ⟨rfl, hx⟩ | ⟨rfl, hx, hy⟩
    · by_cases hx : x = 0
      · have t1 : (x != 0) = false := by simp [hx]
        go_wp2
        go_round
        case rel => exact .inr (.inl ⟨by go_num, hx⟩)
        case measure => simp [intOf]
      · have t1 : (x != 0) = true := by simp [hx]
        go_wp2
        go_ret
        exact ⟨by simp [orI, hx], rfl⟩
    · by_cases hy : y = 0
      · have t1 : (y != 0) = false := by simp [hy]
        go_wp2
        go_round
        case rel => exact .inr (.inr ⟨by go_num, hx, hy⟩)
        case measure => simp [intOf]
      · have t1 : (y != 0) = true := by simp [hy]
        go_wp2
        go_ret
        exact ⟨by simp [orI], rfl⟩
    · go_wp2
      go_ret
      exact ⟨by simp [orI], rfl⟩

theorem compare_b (a b : Int) (w : World) : Calls Tryd.prog 36 #[.int .i64 a, .int .i64 b] w fun e w' => e = .returned (.int .i64 (cmpI a b)) ∧ Below w.heap.size w w' := sameB (compare_any a b w)
theorem keepS {W wq w1 : World} {a b c d : Addr} {x y z u : Value} (h : wq.cell? a = some x ∧ wq.cell? b = some y ∧ wq.cell? c = some z ∧ wq.cell? d = some u ∧ Below W.heap.size W wq) (hb : Below wq.heap.size wq w1) :
    w1.cell? a = some x ∧ w1.cell? b = some y ∧ w1.cell? c = some z ∧ w1.cell? d = some u ∧ Below W.heap.size W w1 :=
  ⟨cellB h.1 hb, cellB h.2.1 hb, cellB h.2.2.1 hb, cellB h.2.2.2.1 hb, nextW h.2.2.2.2 hb⟩
theorem below2 (w : World) (x y : Int) : Below w.heap.size w (w.alloc (.cells #[.int .i64 x, .int .i64 y] 3)) := (Below.refl _ w).alloc (Nat.le_refl _) _

end Go.Proofs.YthbkimojbbkeiaaDoor
