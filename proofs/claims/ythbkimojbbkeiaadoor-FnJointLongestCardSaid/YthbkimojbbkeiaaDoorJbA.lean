/- Contracts: math/bits.OnesCount, math/bits.TrailingZeros of sets below 1024. -/
import Derived.Test.YthbkimojbbkeiaaDoorJtPlain
import Derived.Test.YthbkimojbbkeiaaDoorSoC
import Derived.Laws.Bits64b
import Derived.Lib.TrailingZeros
namespace Go.Proofs.YthbkimojbbkeiaaDoor
open Go.RowKit

theorem all_lt {p : Nat → Prop} [DecidablePred p] (h : (List.range 1024).all (fun x => decide (p x)) = true) : ∀ x : Nat, x < 1024 → p x := fun x hx => of_decide_eq_true (List.all_eq_true.1 h x (List.mem_range.2 hx))

/-- How many spares a set has. -/
def pcN (s : Nat) : Nat := (bitsL s 10).length
theorem onesCount64_b (s : Nat) (hs : s < 1024) (w : World) :
    Calls Tryd.prog 51 #[.int .u64 (s : Int)] w fun e w' => e = .returned (.int .i64 (pcN s : Int)) ∧ w = w' := by
  go_enter Tryd.func51, Tryd.ntmps51
  go_wp2
  go_ret
  refine ⟨?_, rfl⟩
  refine congrArg (fun z => Ending.returned (Value.int IntKind.i64 z)) ?_
  revert hs
  revert s
  exact all_lt (by kernel_rfl)
theorem onesCount_b (s : Nat) (hs : s < 1024) (w : World) :
    Calls Tryd.prog 28 #[.int .u64 (s : Int)] w fun e w' => e = .returned (.int .i64 (pcN s : Int)) ∧ w = w' := by
  go_enter Tryd.func28, Tryd.ntmps28
  go_wp2_with fail
  refine (onesCount64_b s hs _).mono ?_
  rintro e _ ⟨rfl, rfl⟩
  go_wp2
  go_ret
  exact ⟨rfl, rfl⟩

/-- The table that TrailingZeros64 reads. -/
def Tb (w : World) : Prop := 1 < w.heap.size ∧ ∀ j, j < 64 → w.cell? ⟨1, j, none⟩ = some (.int .u8 ((Lib.deBruijn64tab.getD j 0 : Nat) : Int))
theorem Tb.old {w w' : World} (h : Tb w) (b : Below w.heap.size w w') : Tb w' := ⟨Nat.lt_of_lt_of_le h.1 b.size, fun j hj => (b.cell (p := ⟨1, j, none⟩) h.1).trans (h.2 j hj)⟩
theorem Tb.below {w w' : World} {B : Nat} (h : Tb w) (b : Below B w w') (hB : 1 < B) : Tb w' := ⟨Nat.lt_of_lt_of_le h.1 b.size, fun j hj => (b.cell (p := ⟨1, j, none⟩) hB).trans (h.2 j hj)⟩
theorem Tb.out {w w' : World} {lo hi : Nat} (h : Tb w) (o : Out lo hi w w') (hl : 1 < lo) : Tb w' :=
  ⟨Nat.lt_of_lt_of_le h.1 o.size, fun j hj => (World.cell?_of_block (a := ⟨1, j, none⟩) (o.block 1 h.1 (by omega))).trans (h.2 j hj)⟩

/-- The lowest bit of a set; where the table has it. -/
def tzN (s : Nat) : Nat := Lib.ctz 64 s
def tzI (s : Nat) : Nat := ((s &&& (18446744073709551616 - s)) * 285870213051353865 % 18446744073709551616) / 288230376151711744
theorem tz_key : ∀ s : Nat, s < 1024 → s ≠ 0 → IntKind.u64.wrap (bits BinOp.and IntKind.u64 (s : Int) (IntKind.u64.wrap (-(s : Int))) * 285870213051353865) / 288230376151711744 = (tzI s : Int) ∧ tzI s < 64 ∧ Lib.deBruijn64tab.getD (tzI s) 0 = tzN s :=
  all_lt (by kernel_rfl)
theorem tz_lt : ∀ s : Nat, s < 1024 → s ≠ 0 → tzN s < 10 := all_lt (by kernel_rfl)
theorem trailing64_core (s idx z : Nat) (w : World) (hx0 : ((s : Int) == 0) = false)
    (key : IntKind.u64.wrap (bits BinOp.and IntKind.u64 (s : Int) (IntKind.u64.wrap (-(s : Int))) * 285870213051353865) / 288230376151711744 = (idx : Int))
    (hi : idx < 64) (hz : z < 64) (hc : w.cell? ⟨1, idx, none⟩ = some (.int .u8 (z : Int))) :
    Calls Tryd.prog 62 #[.int .u64 (s : Int)] w fun e w' => e = .returned (.int .i64 (z : Int)) ∧ w' = w := by
  go_enter Tryd.func62, Tryd.ntmps62
  go_wp2_with (simp only [key])
  go_ret
  exact ⟨rfl, rfl⟩
theorem trailing64_b (s : Nat) (hs : s < 1024) (h0 : s ≠ 0) (w : World) (hT : Tb w) :
    Calls Tryd.prog 62 #[.int .u64 (s : Int)] w fun e w' => e = .returned (.int .i64 (tzN s : Int)) ∧ w = w' := by
  obtain ⟨key, hi, htab⟩ := tz_key s hs h0
  have hc := hT.2 _ hi
  rw [htab] at hc
  have hx0 : ((s : Int) == 0) = false := by rw [beq_eq_false_iff_ne]; omega
  have hb := tz_lt s hs h0
  refine (trailing64_core s (tzI s) (tzN s) w hx0 key hi (by omega) hc).mono ?_
  rintro e w' ⟨rfl, rfl⟩
  exact ⟨rfl, rfl⟩
theorem trailing_b (s : Nat) (hs : s < 1024) (h0 : s ≠ 0) (w : World) (hT : Tb w) :
    Calls Tryd.prog 56 #[.int .u64 (s : Int)] w fun e w' => e = .returned (.int .i64 (tzN s : Int)) ∧ w = w' := by
  go_enter Tryd.func56, Tryd.ntmps56
  go_wp2_with fail
  refine (trailing64_b s hs h0 _ hT).mono ?_
  rintro e _ ⟨rfl, rfl⟩
  go_wp2
  go_ret
  exact ⟨rfl, rfl⟩

/-- A set's bits from k on; a set without its lowest bit. -/
def clN (s k : Nat) : Nat := s / 2 ^ k * 2 ^ k
def nxN (t : Nat) : Nat := t &&& (t - 1)
theorem nx_key : ∀ t : Nat, t < 1024 → t ≠ 0 → bits BinOp.and IntKind.u64 (t : Int) ((t : Int) - 1) = (nxN t : Int) ∧ nxN t < t := all_lt (by kernel_rfl)
/-- The loop of list: the bits below k are told; the lowest of the others is next. -/
theorem list_step : ∀ s : Nat, s < 1024 → ∀ k : Nat, k ≤ 10 → clN s k ≠ 0 → (tzN (clN s k) + 1 ≤ 10 ∧ k ≤ tzN (clN s k)) ∧ bitsL s k ++ [(tzN (clN s k) : Int)] = bitsL s (tzN (clN s k) + 1) ∧ nxN (clN s k) = clN s (tzN (clN s k) + 1) := by
  have h : ∀ s : Nat, s < 1024 → ∀ k : Nat, k < 11 → clN s k ≠ 0 → (tzN (clN s k) + 1 ≤ 10 ∧ k ≤ tzN (clN s k)) ∧ bitsL s k ++ [(tzN (clN s k) : Int)] = bitsL s (tzN (clN s k) + 1) ∧ nxN (clN s k) = clN s (tzN (clN s k) + 1) := all_lt (by kernel_rfl)
  exact fun s hs k hk => h s hs k (by omega)
theorem list_end : ∀ s : Nat, s < 1024 → ∀ k : Nat, k ≤ 10 → clN s k = 0 → bitsL s k = bitsL s 10 := by
  have h : ∀ s : Nat, s < 1024 → ∀ k : Nat, k < 11 → clN s k = 0 → bitsL s k = bitsL s 10 := all_lt (by kernel_rfl)
  exact fun s hs k hk => h s hs k (by omega)
theorem cl_lt {s k : Nat} (hs : s < 1024) : clN s k < 1024 := Nat.lt_of_le_of_lt (Nat.div_mul_le_self s (2 ^ k)) hs

end Go.Proofs.YthbkimojbbkeiaaDoor
