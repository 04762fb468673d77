/- Draws: DrawOrdersDrop, DrawOrdersLongest. -/
import Derived.Test.YtldjnfcdmhcjdaaDrAt
namespace Go.Proofs.Ytldjnfcdmhcjdaa
open Go.RowKit

theorem drawOrdersDrop_any (v : Value) (n hi : Nat) (w : World) (hv : By w hi v n) (hhi : hi ≤ w.heap.size) :
    Calls Try.prog 38 #[v] w fun e w' => ∃ r xs a, e = .returned (.tuple #[r, .int .i64 a]) ∧ Below w.heap.size w w' ∧ Wr w' w.heap.size w'.heap.size r xs ∧ xs.length ≤ 13 ∧ (-1 ≤ a ∧ a ≤ 20) := by
  go_enter Try.func38, Try.ntmps38
  go_wp2_with fail
  refine (l6Open_any v n hi w hv hhi).mono ?_
  rintro e w1 ⟨rfl, b1, d1⟩
  go_wp2_with fail
  refine (l92Orders_any hi w.heap.size 0 8 w1 d1 (by omega) (by omega)).mono ?_
  rintro e w2 ⟨r, xs, p2, rfl, hp2, s2, r2, hl2⟩
  have z2 := d1.lt
  have r2' := r2
  obtain ⟨a, m, cap, rfl, hlen, hm, hcap, hcap2, _⟩ := r2'
  go_wp2_with fail
  refine (l91At_any hi w.heap.size p2 m w2 s2.rd (by omega) (by omega)).mono ?_
  rintro e w3 ⟨A, p3, rfl, hp3, s3, hA1, hA2⟩
  have r3 := r2.st s3 z2
  have s3' := s2.trans s3
  have b3 := s3'.all b1 rfl
  have hz3 := s3.gr.size
  clear s2 s3 s3' r2 d1
  go_wp2
  go_ret2
  exact ⟨_, xs, A, rfl, b3, r3.mono (by omega) (by omega), hl2, ⟨hA1, by omega⟩⟩

theorem drawOrdersLongest_any (v : Value) (n hi : Nat) (w : World) (hv : By w hi v n) (hhi : hi ≤ w.heap.size) :
    Calls Try.prog 46 #[v] w fun e w' => ∃ r xs, e = .returned r ∧ Below w.heap.size w w' ∧ Wr w' w.heap.size w'.heap.size r xs ∧ xs.length ≤ 13 := by
  go_enter Try.func46, Try.ntmps46
  go_wp2_with fail
  refine (l6Open_any v n hi w hv hhi).mono ?_
  rintro e w1 ⟨rfl, b1, d1⟩
  go_wp2_with fail
  refine (l92Orders_any hi w.heap.size 0 9 w1 d1 (by omega) (by omega)).mono ?_
  rintro e w2 ⟨r, xs, p2, rfl, hp2, s2, r2, hl2⟩
  have z2 := d1.lt
  have b3 := s2.all b1 rfl
  clear s2 d1
  go_wp2
  go_ret
  exact ⟨r, xs, rfl, b3, r2.mono (by omega) (by omega), hl2⟩

end Go.Proofs.Ytldjnfcdmhcjdaa
