/- Contracts: allWithin, by slices.ContainsFunc and slices.IndexFunc over its closure. -/
import Derived.Test.YtldjnfcdmhcjdaaInts
namespace Go.Proofs.Ytldjnfcdmhcjdaa
open Go.RowKit

/-- The first k numbers lie between a and b. -/
def inTo (xs : List Int) (a b : Int) (k : Nat) : Prop := ∀ i, i < k → a ≤ gi xs i ∧ gi xs i ≤ b
instance (xs : List Int) (a b : Int) (k : Nat) : Decidable (inTo xs a b k) := by unfold inTo; infer_instance
def inAll (xs : List Int) (a b : Int) : Bool := decide (inTo xs a b xs.length)

theorem within1_any (x a b : Int) (B1 B2 : Nat) (w : World) (h1 : w.cell? ⟨B1, 0, none⟩ = some (.int .i64 a)) (h2 : w.cell? ⟨B2, 0, none⟩ = some (.int .i64 b)) :
    Calls Try.prog 71 #[.int .i64 x, .pointer (some ⟨B1, 0, none⟩), .pointer (some ⟨B2, 0, none⟩)] w fun e w' => e = .returned (.bool (!inB x a b)) ∧ w = w' := by
  go_enter Try.func71, Try.ntmps71
  go_wp2_with (go_at_call 55; refine (within_any _ _ _ _).mono ?_; rintro e w' ⟨rfl, rfl⟩)
  go_ret
  exact ⟨rfl, rfl⟩

theorem within1_is {r : Bool} (x a b : Int) (B1 B2 : Nat) (w : World) (h1 : w.cell? ⟨B1, 0, none⟩ = some (.int .i64 a)) (h2 : w.cell? ⟨B2, 0, none⟩ = some (.int .i64 b)) (h : (!inB x a b) = r) :
    Calls Try.prog 71 #[.int .i64 x, .pointer (some ⟨B1, 0, none⟩), .pointer (some ⟨B2, 0, none⟩)] w fun e w' => e = .returned (.bool r) ∧ w = w' := h ▸ within1_any x a b B1 B2 w h1 h2

/-- The first place at which a number lies outside, or -1. -/
theorem indexFunc_any (v : Value) (xs : List Int) (a b : Int) (B1 B2 hi : Nat) (w : World) (hv : Sl w hi v xs) (h1 : w.cell? ⟨B1, 0, none⟩ = some (.int .i64 a)) (h2 : w.cell? ⟨B2, 0, none⟩ = some (.int .i64 b)) :
    Calls Try.prog 74 #[v, .func (.func 71) #[] #[.pointer (some ⟨B1, 0, none⟩), .pointer (some ⟨B2, 0, none⟩)]] w fun e w' =>
      (∃ r : Int, e = .returned (.int .i64 r) ∧ decide (0 ≤ r) = !inAll xs a b) ∧ w = w' := by
  obtain ⟨ad, n, cap, rfl, hl, hn, hcap, hcap2, hc⟩ := hv
  have HL := Lib.hid hl
  clear hl
  go_enter Try.func74, Try.ntmps74
  go_wp2
  go_loop [8] (fun i => ∃ k : Nat, k ≤ n ∧ i = .int .i64 k ∧ Hid (inTo xs a b k)) (fun i => n - (intOf i).toNat)
  case atStart => exact ⟨0, Nat.zero_le _, rfl, fun j hj => absurd hj (by omega)⟩
  case round =>
    obtain ⟨k, hk, rfl, hno⟩ := hrel
    by_cases hlt : k < n
    · obtain ⟨g, off, rfl, hbh, hc⟩ := hc (by omega)
      have hcell := hc k hlt
      clear hc
      cases hin : inB (gi xs k) a b with
      | true =>
        have hin' : (!inB (gi xs k) a b) = false := by rw [hin]; rfl
        go_wp2_with (go_at_call 71; refine (within1_is _ a b _ _ _ h1 h2 hin').mono ?_; rintro e w' ⟨rfl, rfl⟩)
        go_round
        case rel => exact ⟨k + 1, by omega, by go_num, fun j hj => by
          by_cases hjk : j = k
          · subst hjk; exact inB_true.1 hin
          · exact hno.out j (by omega)⟩
        case measure => simp [intOf]; omega
      | false =>
        have hin' : (!inB (gi xs k) a b) = true := by rw [hin]; rfl
        go_wp2_with (go_at_call 71; refine (within1_is _ a b _ _ _ h1 h2 hin').mono ?_; rintro e w' ⟨rfl, rfl⟩)
        go_ret
        refine ⟨⟨k, rfl, ?_⟩, rfl⟩
        have : inAll xs a b = false := by
          simp only [inAll, decide_eq_false_iff_not]
          intro h
          have := inB_true.2 (h k (by rw [HL.out]; exact hlt))
          rw [this] at hin
          cases hin
        rw [this]
        simp
    · obtain rfl : n = k := by omega
      go_wp2
      go_ret
      refine ⟨⟨-1, rfl, ?_⟩, rfl⟩
      have : inAll xs a b = true := by
        simp only [inAll, decide_eq_true_eq, HL.out]
        exact hno.out
      rw [this]
      simp

theorem allWithin_any (v : Value) (xs : List Int) (a b : Int) (hi : Nat) (w : World) (hv : Sl w hi v xs) :
    Calls Try.prog 59 #[v, .int .i64 a, .int .i64 b] w fun e w' => e = .returned (.bool (inAll xs a b)) ∧ Below w.heap.size w w' := by
  have hb : Below w.heap.size w ((w.alloc (.cells #[.int .i64 a] 3)).alloc (.cells #[.int .i64 b] 3)) := ((Below.refl _ w).alloc (Nat.le_refl _) _).alloc (by simp) _
  have hv2 := hv.old hb
  obtain ⟨ad, n, cap, rfl, hrest⟩ := hv
  clear hrest
  have HV := Lib.hid hv2
  clear hv2
  have hcont : ∀ W : World, Sl W hi (.slice ad n cap) xs → W.cell? ⟨w.heap.size, 0, none⟩ = some (.int .i64 a) → W.cell? ⟨w.heap.size + 1, 0, none⟩ = some (.int .i64 b) →
      Calls Try.prog 70 #[.slice ad n cap, .func (.func 71) #[] #[.pointer (some ⟨w.heap.size, 0, none⟩), .pointer (some ⟨w.heap.size + 1, 0, none⟩)]] W fun e w' => e = .returned (.bool (!inAll xs a b)) ∧ W = w' := by
    intro W hW c1 c2
    go_enter Try.func70, Try.ntmps70
    go_wp2_with fail
    refine (indexFunc_any _ xs a b _ _ hi _ hW c1 c2).mono ?_
    rintro e w' ⟨⟨r, rfl, hr⟩, rfl⟩
    have HR := Lib.hid hr
    clear hr
    go_wp2
    go_ret
    exact ⟨by rw [← HR.out]; rfl, rfl⟩
  have HC := Lib.hid hcont
  clear hcont
  go_enter Try.func59, Try.ntmps59
  go_wp2_with fail
  refine (HC.out _ HV.out (by simp) (by simp)).mono ?_
  rintro e w' ⟨rfl, rfl⟩
  go_wp2
  go_ret
  exact ⟨by simp, hb⟩

theorem allWithin_is {r : Bool} (v : Value) (xs : List Int) (a b : Int) (hi : Nat) (w : World) (hv : Sl w hi v xs) (h : inAll xs a b = r) :
    Calls Try.prog 59 #[v, .int .i64 a, .int .i64 b] w fun e w' => e = .returned (.bool r) ∧ Below w.heap.size w w' := h ▸ allWithin_any v xs a b hi w hv

end Go.Proofs.Ytldjnfcdmhcjdaa
