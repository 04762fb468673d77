/- sameSpares of lists that read the same. -/
import Derived.Test.YthbkimojbbkeiaaSp
import Derived.BigQuiet
namespace Go.Proofs.Ythbkimojbbkeiaa
open Go.RowKit

set_option maxHeartbeats 1000000 in
theorem sameSpares_yes (v1 v2 : Value) (cs : List Int) (n m h1 h2 : Nat) (w : World) (hv1 : SlF 2 w h1 v1 cs n) (hv2 : SlF 2 w h2 v2 cs m) :
    Calls Try.prog 46 #[v1, v2] w fun e w' => e = .returned (.bool true) ∧ Below w.heap.size w w' := by
  obtain ⟨a, cap, rfl, hl, hn, hcap, hcap2, hc⟩ := hv1
  obtain ⟨a2, cap2, rfl, hl2, hn2, hcap3, hcap4, hc2⟩ := hv2
  obtain rfl : n = m := by omega
  have HC := Lib.hid hc
  have HC2 := Lib.hid hc2
  clear hl hl2 hc hc2
  go_enter Try.func46, Try.ntmps46
  go_wp2
  go_loopw [5] (fun i wr => ∃ k : Nat, k ≤ n ∧ i = .int .i64 k ∧ Hid (Below w.heap.size w wr)) (fun i _ => n - (intOf i).toNat)
  case atStart => exact ⟨0, Nat.zero_le _, rfl, Below.refl _ _⟩
  case round =>
    obtain ⟨k, hk, rfl, hB⟩ := hrel
    by_cases hlt : k < n
    · obtain ⟨b, off, rfl, hbh, hc⟩ := HC.out (by omega)
      obtain ⟨b2, off2, rfl, hbh2, hc2⟩ := HC2.out (by omega)
      obtain ⟨c0, c1⟩ := cel2 hc hlt hB.out (World.block_lt_of_cell? w _ (hc (k * 2) (by omega)))
      obtain ⟨d0, d1⟩ := cel2 hc2 hlt hB.out (World.block_lt_of_cell? w _ (hc2 (k * 2) (by omega)))
      clear hc hc2
      revert c0 c1 d0 d1
      generalize gi cs (k * 2) = x
      generalize gi cs (k * 2 + 1) = y
      intro c0 c1 d0 d1
      go_wp2
      go_quiet (fail)
      go_wp2
      go_roundw
      case rel => exact ⟨k + 1, by omega, by go_num, Lib.hid (below_drewN hB.out _)⟩
      case measure => simp [intOf]; omega
    · obtain rfl : n = k := by omega
      go_wp2
      go_ret
      exact ⟨rfl, hB.out⟩

end Go.Proofs.Ythbkimojbbkeiaa
