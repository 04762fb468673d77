/- Contract: hasInt. -/
import Derived.Test.YtldjnfcdmhcjdaaInts
namespace Go.Proofs.Ytldjnfcdmhcjdaa
open Go.RowKit

theorem hasInt_any (v : Value) (xs : List Int) (x : Int) (hi : Nat) (w : World) (hv : Sl w hi v xs) :
    Calls Try.prog 47 #[v, .int .i64 x] w fun e w' => e = .returned (.bool (hasB xs x)) ∧ w = w' := by
  obtain ⟨a, n, cap, rfl, hl, hn, hcap, hcap2, hc⟩ := hv
  have HL := Lib.hid hl
  clear hl
  go_enter Try.func47, Try.ntmps47
  go_wp2
  go_loop [5] (fun i => ∃ k : Nat, k ≤ n ∧ i = .int .i64 k ∧ ∀ j, j < k → ¬ gi xs j = x) (fun i => n - (intOf i).toNat)
  case atStart => exact ⟨0, Nat.zero_le _, rfl, fun j hj => absurd hj (by omega)⟩
  case round =>
    obtain ⟨k, hk, rfl, hno⟩ := hrel
    have HN := Lib.hid hno
    clear hno
    by_cases hlt : k < n
    · obtain ⟨b, off, rfl, hbh, hc⟩ := hc (by omega)
      have hcell := hc k hlt
      clear hc
      go_wp2
      · have h : (gi xs k == x) = true := by assumption
        go_ret
        exact ⟨by rw [hasB_yes HL.out hlt (by simpa using h)]; rfl, rfl⟩
      · have h : (gi xs k == x) = false := by assumption
        go_round
        case rel => exact ⟨k + 1, by omega, by go_num, fun j hj => by
          by_cases hjk : j = k
          · subst hjk; simpa using h
          · exact HN.out j (by omega)⟩
        case measure => simp [intOf]; omega
    · obtain rfl : n = k := by omega
      go_wp2
      go_ret
      exact ⟨by rw [hasB_no HL.out HN.out]; rfl, rfl⟩

end Go.Proofs.Ytldjnfcdmhcjdaa
