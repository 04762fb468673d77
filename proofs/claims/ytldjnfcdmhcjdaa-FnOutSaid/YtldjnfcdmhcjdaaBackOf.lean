/- Contract: backOf. -/
import Derived.Test.YtldjnfcdmhcjdaaApp
namespace Go.Proofs.Ytldjnfcdmhcjdaa
open Go.RowKit

/-- The last k of a list, turned round. -/
def revTo (xs : List Int) (k : Nat) : List Int := (List.range k).map fun j => gi xs (xs.length - 1 - j)
theorem revTo_len (xs : List Int) (k : Nat) : (revTo xs k).length = k := by simp [revTo]
theorem revTo_succ (xs : List Int) (k : Nat) : revTo xs (k + 1) = revTo xs k ++ [gi xs (xs.length - 1 - k)] := by simp [revTo, List.range_succ]
theorem revTo_all (xs : List Int) : revTo xs xs.length = xs.reverse := by
  refine ext_gi (by simp [revTo]) fun k hk => ?_
  rw [revTo_len] at hk
  simp only [gi, revTo]
  rw [List.getElem?_reverse hk]
  simp [hk]

theorem backOf_any (v : Value) (xs : List Int) (hi : Nat) (w : World) (hv : Sl w hi v xs) (h13 : xs.length ≤ 1000) :
    Calls Try.prog 51 #[v] w fun e w' => ∃ r, e = .returned r ∧ Below w.heap.size w w' ∧ Wr w' w.heap.size w'.heap.size r xs.reverse := by
  obtain ⟨a, n, cap, rfl, hl, hn, hcap, hcap2, hc⟩ := hv
  rw [hl] at h13
  have HL := Lib.hid hl
  have HC := Lib.hid hc
  clear hl hc
  have B0 := Lib.hid ((Below.refl w.heap.size w).alloc (Nat.le_refl _) (.cells #[] 3))
  have O0 := Lib.hid (OwI.new w w.heap.size 0 #[] (Nat.le_refl _) (by unfold maxLen; omega) rfl)
  go_enter Try.func51, Try.ntmps51
  go_wp2
  go_loopw [3, 4] (fun ov i wr => ∃ k : Nat, k ≤ n ∧ i = .int .i64 ((n : Int) - 1 - k) ∧ OwI wr w.heap.size ov (revTo xs k) ∧ Below w.heap.size w wr) (fun _ i _ => (intOf i + 1).toNat)
  case atStart => exact ⟨0, Nat.zero_le _, by simp, O0.out, B0.out⟩
  case round =>
    clear O0 B0
    obtain ⟨k, hk, rfl, hown, hB⟩ := hrel
    by_cases hlt : k < n
    · obtain ⟨b, off, rfl, hbh, hcx⟩ := HC.out (by omega)
      have hck : wr.cell? ⟨b, off + (n - 1 - k), none⟩ = some (.int .i64 (gi xs (n - 1 - k))) := (hB.cell (p := ⟨b, off + (n - 1 - k), none⟩) (World.block_lt_of_cell? w _ (hcx (n - 1 - k) (by omega)))).trans (hcx (n - 1 - k) (by omega))
      have hz : w.heap.size ≤ wr.heap.size := hB.size
      have HO := Lib.hid hown
      have HB := Lib.hid hB
      have hlen : (revTo xs k).length ≤ 1048576 := by rw [revTo_len]; omega
      have HS : Hid (revTo xs (k + 1) = revTo xs k ++ [gi xs (n - 1 - k)]) := by have := revTo_succ xs k; rw [HL.out] at this; exact this
      clear hown hB hcx HC
      go_wp2_with (at_builtin; refine wpList_push2 Try.underlying22 HO.out (by rfl) (by rfl) (by rfl) (by rfl) hlen hz ?_; intro g c w3 hown1 hg1 hn1)
      go_roundw
      case rel => exact ⟨k + 1, by omega, by simp only [Value.int.injEq, true_and]; omega, by rw [HS.out]; exact hown1, push_below HB.out hz HO.out hg1⟩
      case measure => simp [intOf]; omega
    · obtain rfl : n = k := by omega
      have HO := Lib.hid hown
      have HB := Lib.hid hB
      clear hown hB HC
      go_wp2
      go_ret
      have e := revTo_all xs
      rw [HL.out] at e
      exact ⟨_, rfl, HB.out, by rw [← e]; exact HO.out.wr (by rw [revTo_len]; omega)⟩

end Go.Proofs.Ytldjnfcdmhcjdaa
