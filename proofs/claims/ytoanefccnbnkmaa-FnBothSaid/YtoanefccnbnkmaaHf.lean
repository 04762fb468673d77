/- hasFault of the laws. -/
import Derived.Test.YtoanefccnbnkmaaSameF
namespace Go.Proofs.Ytoanefccnbnkmaa
open Go.RowKit

def hasF (cs : List Int) (c : Nat) (m f : Int) : Bool := (List.range c).any fun j => gi cs (j * 2) == m && gi cs (j * 2 + 1) == f
theorem hasF_yes {cs : List Int} {c j : Nat} {m f : Int} (hj : j < c) (h1 : gi cs (j * 2) = m) (h2 : gi cs (j * 2 + 1) = f) : hasF cs c m f = true := by
  unfold hasF
  rw [List.any_eq_true]
  exact ⟨j, List.mem_range.2 hj, by simp [h1, h2]⟩
theorem hasF_no {cs : List Int} {c : Nat} {m f : Int} (h : ∀ j, j < c → ¬ (gi cs (j * 2) = m ∧ gi cs (j * 2 + 1) = f)) : hasF cs c m f = false := by
  unfold hasF
  rw [List.any_eq_false]
  intro j hj
  have := h j (List.mem_range.1 hj)
  simpa using this

set_option maxHeartbeats 1000000 in
theorem hasFault_any (v : Value) (m f : Int) (cs : List Int) (n hi : Nat) (w : World) (hv : SlF 2 w hi v cs n) :
    Calls Try.prog 59 #[v, .agg #[.int .i64 m, .int .i64 f]] w fun e w' => e = .returned (.bool (hasF cs n m f)) ∧ Below w.heap.size w w' := by
  obtain ⟨b0, x0, x1⟩ := box2 w m f 41
  obtain ⟨a, cap, rfl, hl, hn, hcap, hcap2, hc⟩ := hv.old b0
  have HC := Lib.hid hc
  have B0 := Lib.hid b0
  have X0 := Lib.hid x0
  have X1 := Lib.hid x1
  clear hl hc b0 x0 x1 hv
  go_enter Try.func59, Try.ntmps59
  go_wp2
  revert HC B0 X0 X1
  generalize (w.alloc (.cells #[.int .i64 m, .int .i64 f] 41)) = W
  intro HC B0 X0 X1
  go_loopw [5] (fun i wr => ∃ k : Nat, k ≤ n ∧ i = .int .i64 k ∧ Hid (Below W.heap.size W wr) ∧ Hid (∀ j, j < k → ¬ (gi cs (j * 2) = m ∧ gi cs (j * 2 + 1) = f))) (fun i _ => n - (intOf i).toNat)
  case atStart => exact ⟨0, Nat.zero_le _, rfl, Lib.hid (Below.refl _ _), Lib.hid (fun j hj => by omega)⟩
  case round =>
    obtain ⟨k, hk, rfl, hB, HN⟩ := hrel
    by_cases hlt : k < n
    · obtain ⟨b, off, rfl, hbh, hc⟩ := HC.out (by omega)
      obtain ⟨c0, c1⟩ := cel2 hc hlt hB.out (World.block_lt_of_cell? W _ (hc (k * 2) (by omega)))
      have y0 := cellB X0.out hB.out
      have y1 := cellB X1.out hB.out
      have HY := Lib.hid (fun h1 h2 => hasF_yes (cs := cs) (c := n) (j := k) (m := m) (f := f) hlt h1 h2)
      have HX := Lib.hid (fun h : ¬ (gi cs (k * 2) = m ∧ gi cs (k * 2 + 1) = f) => (fun (j : Nat) (hj : j < k + 1) => by
        by_cases e : j = k
        · subst e; exact h
        · exact HN.out j (by omega) : ∀ j, j < k + 1 → ¬ (gi cs (j * 2) = m ∧ gi cs (j * 2 + 1) = f)))
      clear hc
      revert c0 c1 HY HX
      generalize gi cs (k * 2) = x
      generalize gi cs (k * 2 + 1) = y
      intro c0 c1 HY HX
      by_cases hx : x = m
      · subst hx
        by_cases hy : y = f
        · subst hy
          have e1 : (x == x) = true := by simp
          have e2 : (y == y) = true := by simp
          go_wp2
          go_quiet (fail)
          go_wp2
          go_ret
          exact ⟨by rw [HY.out trivial trivial]; rfl, below_drewN (nextW B0.out hB.out) _⟩
        · have e1 : (x == x) = true := by simp
          have e2 : (y == f) = false := by simpa using hy
          have H2 := Lib.hid (HX.out (fun h => hy h.2))
          go_wp2
          go_quiet (fail)
          go_wp2
          go_roundw
          case rel => exact ⟨k + 1, by omega, by go_num, Lib.hid (below_drewN hB.out _), H2⟩
          case measure => simp [intOf]; omega
      · have e1 : (x == m) = false := by simpa using hx
        have H2 := Lib.hid (HX.out (fun h => hx h.1))
        go_wp2
        go_quiet (fail)
        go_wp2
        go_roundw
        case rel => exact ⟨k + 1, by omega, by go_num, Lib.hid (below_drewN hB.out _), H2⟩
        case measure => simp [intOf]; omega
    · obtain rfl : n = k := by omega
      have HE := Lib.hid (hasF_no HN.out)
      go_wp2
      go_ret
      exact ⟨by rw [HE.out]; rfl, nextW B0.out hB.out⟩
theorem hasFault_is {p : Bool} (v : Value) (m f : Int) (cs : List Int) (n hi : Nat) (w : World) (hv : SlF 2 w hi v cs n) (h : hasF cs n m f = p) :
    Calls Try.prog 59 #[v, .agg #[.int .i64 m, .int .i64 f]] w fun e w' => e = .returned (.bool p) ∧ Below w.heap.size w w' := h ▸ hasFault_any v m f cs n hi w hv

end Go.Proofs.Ytoanefccnbnkmaa
