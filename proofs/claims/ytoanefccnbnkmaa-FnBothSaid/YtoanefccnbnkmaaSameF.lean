/- sameFaults of lists that read the same; the draw of FnOne. -/
import Derived.Test.YtoanefccnbnkmaaDrF
import Derived.Test.YtoanefccnbnkmaaDrG
import Derived.BigQuiet
namespace Go.Proofs.Ytoanefccnbnkmaa
open Go.RowKit

set_option maxHeartbeats 1000000 in
theorem sameFaults_yes (v1 v2 : Value) (cs : List Int) (n m h1 h2 : Nat) (w : World) (hv1 : SlF 2 w h1 v1 cs n) (hv2 : SlF 2 w h2 v2 cs m) :
    Calls Try.prog 40 #[v1, v2] w fun e w' => e = .returned (.bool true) ∧ Below w.heap.size w w' := by
  obtain ⟨a, cap, rfl, hl, hn, hcap, hcap2, hc⟩ := hv1
  obtain ⟨a2, cap2, rfl, hl2, hn2, hcap3, hcap4, hc2⟩ := hv2
  obtain rfl : n = m := by omega
  have HC := Lib.hid hc
  have HC2 := Lib.hid hc2
  clear hl hl2 hc hc2
  go_enter Try.func40, Try.ntmps40
  go_wp2
  go_loopw [5] (fun i wr => ∃ k : Nat, k ≤ n ∧ i = .int .i64 k ∧ Hid (Below w.heap.size w wr)) (fun i _ => n - (intOf i).toNat)
  case atStart => exact ⟨0, Nat.zero_le _, rfl, Below.refl _ _⟩
  case round =>
    obtain ⟨k, hk, rfl, hB⟩ := hrel
    by_cases hlt : k < n
    · obtain ⟨b, off, rfl, hbh, hc⟩ := HC.out (by omega)
      obtain ⟨b2, off2, rfl, hbh2, hc2⟩ := HC2.out (by omega)
      obtain ⟨c0, c1⟩ := cel2 hc hlt hB.out (World.block_lt_of_cell? w _ (hc (k * 2) (by omega)))
      obtain ⟨d0, d1⟩ := cel2 hc2 hlt hB.out (World.block_lt_of_cell? w _ (hc2 (k * 2) (by omega)))
      clear hc hc2
      revert c0 c1 d0 d1
      generalize gi cs (k * 2) = x
      generalize gi cs (k * 2 + 1) = y
      intro c0 c1 d0 d1
      go_wp2
      go_quiet (fail)
      go_wp2
      go_roundw
      case rel => exact ⟨k + 1, by omega, by go_num, Lib.hid (below_drewN hB.out _)⟩
      case measure => simp [intOf]; omega
    · obtain rfl : n = k := by omega
      go_wp2
      go_ret
      exact ⟨rfl, hB.out⟩

set_option maxRecDepth 100000 in
set_option maxHeartbeats 1000000 in
theorem drawFaultOne_any (v : Value) (n hi : Nat) (w : World) (hv : By w hi v n) (hhi : hi ≤ w.heap.size) :
    Calls Try.prog 37 #[v] w fun e w' => ∃ r a, e = .returned (.tuple #[r, .int .i64 a]) ∧ Hid (∃ cs k, Below w.heap.size w w' ∧ SlF 3 w' w'.heap.size r cs k ∧ (-1 ≤ a ∧ a ≤ 2000)) := by
  go_enter Try.func37, Try.ntmps37
  go_wp2_with fail
  refine (l6Open_any v n hi w hv hhi).mono ?_
  rintro e w1 ⟨rfl, b1, d1⟩
  have hz1 := d1.lt
  have B1 := Lib.hid b1
  have D1 := Lib.hid d1
  clear b1 d1 hv
  go_wp2_with fail
  refine (l91Cable_any hi w.heap.size 0 4 w1 D1.out (by omega) (by omega)).mono ?_
  rintro e w2 ⟨r, rfl, hd⟩
  obtain ⟨cs, k, p, hp, st, wr, hk⟩ := hd.out
  have ST2 := Lib.hid st
  have S2 := Lib.hid wr
  clear hd st wr D1
  go_wp2_with fail
  refine (pick_any hi w.heap.size p 60 _ ST2.out.rd (by omega) (by omega) (by omega)).mono ?_
  rintro e w3 ⟨t, rfl, ht, d3, o3, z3⟩
  have ST3 := Lib.hid (ST2.out.pick d3 o3)
  have S3 := Lib.hid (S2.out.pick o3 hz1)
  have hz3 := o3.size
  clear d3 o3 z3 S2 ST2
  go_wp2_with fail
  refine (pick_any hi w.heap.size (p + 1) 12 _ ST3.out.rd (by omega) (by omega) (by omega)).mono ?_
  rintro e w4 ⟨u, rfl, hu, d4, o4, z4⟩
  have ST4 := Lib.hid (ST3.out.pick d4 o4)
  have S4 := Lib.hid (S3.out.pick o4 hz1)
  have hz4 := o4.size
  have hq : (u : Int).tdiv 11 = ((u / 11 : Nat) : Int) := by rw [Int.tdiv_eq_ediv_of_nonneg (by omega)]; rfl
  have hq2 : u / 11 ≤ 1 := by omega
  clear d4 o4 z4 S3 ST3
  revert hq hq2
  generalize u / 11 = q
  intro hq hq2
  go_wp2
  go_ret2
  exact ⟨_, _, rfl, Lib.hid ⟨cs, k, st_below B1.out ST4.out (Nat.le_refl _), S4.out.sl.mono (Nat.le_trans hz3 hz4), by omega, by omega⟩⟩

end Go.Proofs.Ytoanefccnbnkmaa
