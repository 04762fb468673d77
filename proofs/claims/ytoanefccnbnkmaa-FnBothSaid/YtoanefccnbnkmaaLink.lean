/- Links of a cable: what they read as; their length and resistance. -/
import Derived.Test.YtoanefccnbnkmaaCab
import Derived.Deep.LoopGhost
namespace Go.Proofs.Ytoanefccnbnkmaa
open Go.RowKit

/-- p leads to the links of the last j of n sections; their blocks lie from B on. -/
def Lk (W : World) (B : Nat) (cs : List Int) (n : Nat) : Nat → Value → Prop
  | 0, p => p = .pointer none
  | j + 1, p => ∃ g q, p = .pointer (some ⟨g, 0, none⟩) ∧ B ≤ g ∧ Row W g 111 #[.int .i64 (mi cs (n - 1 - j)), .int .i64 (ki cs (n - 1 - j)), .int .i64 (oi cs (n - 1 - j)), q] ∧ Lk W B cs n j q

theorem Lk.of_block {W W' : World} {B : Nat} {cs : List Int} {n : Nat} (hb : ∀ g, B ≤ g → g < W.heap.size → (∃ cur e, W.heap[g]? = some (.cells cur e (0, 0))) → W'.heap[g]? = W.heap[g]?) : ∀ (j : Nat) (p : Value), Lk W B cs n j p → Lk W' B cs n j p
  | 0, _, h => h
  | j + 1, _, ⟨g, q, e, hB, hr, hq⟩ => ⟨g, q, e, hB, (hb g hB hr.lt ⟨_, _, hr⟩).trans hr, Lk.of_block hb j q hq⟩
theorem Lk.old {W W' : World} {B : Nat} {cs : List Int} {n j : Nat} {p : Value} (h : Lk W B cs n j p) (hb : Below W.heap.size W W') : Lk W' B cs n j p := Lk.of_block (fun g _ hg _ => hb.block g hg) j p h

theorem length_any (cs : List Int) (n B : Nat) (p : Value) (w : World) (hp : Lk w B cs n n p) (hc : cabTo cs n) (hn : n ≤ 8) :
    Calls Try.prog 82 #[p] w fun e w' => e = .returned (.int .i64 (mlTo cs n)) ∧ w = w' := by
  have HC := Lib.hid hc
  have HP := Lib.hid hp
  clear hc hp
  go_enter Try.func82, Try.ntmps82
  go_wp2
  go_loopg [0, 3] n (fun k l s wr => ∃ m : Nat, m + k = n ∧ Hid (Lk w B cs n k l) ∧ s = .int .i64 (mlTo cs m) ∧ wr = w)
  case atStart => exact ⟨0, by omega, HP.out, rfl, rfl⟩
  case round =>
    obtain ⟨m, hm, hl, rfl, rfl⟩ := hrel
    clear HP
    cases gk with
    | zero =>
      obtain rfl : n = m := by omega
      have e : u0 = .pointer none := hl.out
      subst e
      go_wp2
      go_ret
      exact ⟨rfl, rfl⟩
    | succ j =>
      obtain ⟨g, q, rfl, hB, hr, hq⟩ := hl.out
      have em : n - 1 - j = m := by omega
      rw [em] at hr
      have c0 : wr.cell? ⟨g, 0, none⟩ = some (.int .i64 (mi cs m)) := by rw [hr.cell]; rfl
      have c3 : wr.cell? ⟨g, 3, none⟩ = some q := by rw [hr.cell]; rfl
      have hml := mlTo_bd (cabTo_mono HC.out (show m ≤ n by omega))
      have hs := (HC.out m (by omega)).1
      have hge : (0 : Int) ≤ mlTo cs m := by omega
      have hle : mlTo cs m ≤ 400 := by omega
      have HQ := Lib.hid hq
      clear hr hq hml em
      go_wp2
      go_roundg j
      case measure => omega
      case rel => exact ⟨m + 1, by omega, HQ.out, rfl, rfl⟩

set_option maxHeartbeats 1000000 in
theorem resistance_any (cs : List Int) (n B : Nat) (p : Value) (m : Int) (w : World) (hp : Lk w B cs n n p) (hc : cabTo cs n) (hn : n ≤ 8) (hm0 : 0 ≤ m) (hm4 : m ≤ 400) :
    Calls Try.prog 91 #[p, .int .i64 m] w fun e w' => e = .returned (.int .i64 (rI cs n m)) ∧ w = w' := by
  have HC := Lib.hid hc
  have HP := Lib.hid hp
  clear hc hp
  go_enter Try.func91, Try.ntmps91
  go_wp2
  go_loopg [0, 1, 5] n (fun k l lf s wr => ∃ t : Nat, t + k = n ∧ Hid (Lk w B cs n k l) ∧ lf = .int .i64 (ohTo cs m t).2 ∧ s = .int .i64 (ohTo cs m t).1 ∧ wr = w)
  case atStart => exact ⟨0, by omega, HP.out, rfl, rfl, rfl⟩
  case round =>
    obtain ⟨t, ht, hl, rfl, rfl, rfl⟩ := hrel
    clear HP
    cases gk with
    | zero =>
      obtain rfl : n = t := by omega
      have e : u0 = .pointer none := hl.out
      subst e
      go_wp2
      go_ret
      exact ⟨rfl, rfl⟩
    | succ j =>
      obtain ⟨g, q, rfl, hB, hr, hq⟩ := hl.out
      have em : n - 1 - j = t := by omega
      rw [em] at hr
      have c0 : wr.cell? ⟨g, 0, none⟩ = some (.int .i64 (mi cs t)) := by rw [hr.cell]; rfl
      have c2 : wr.cell? ⟨g, 2, none⟩ = some (.int .i64 (oi cs t)) := by rw [hr.cell]; rfl
      have c3 : wr.cell? ⟨g, 3, none⟩ = some q := by rw [hr.cell]; rfl
      have hm := ohTo_bd hm0 (cabTo_mono HC.out (show t ≤ n by omega))
      have hs := HC.out t (by omega)
      have HQ := Lib.hid hq
      obtain ⟨p1, p2, p3, p4⟩ := part_bd hm.2.2.1 hs.1 hs.2.2
      have E1 : Hid ((ohTo cs m (t + 1)).1 = (ohTo cs m t).1 + min (ohTo cs m t).2 (mi cs t) * oi cs t) := Lib.hid rfl
      have E2 : Hid ((ohTo cs m (t + 1)).2 = (ohTo cs m t).2 - min (ohTo cs m t).2 (mi cs t)) := Lib.hid rfl
      obtain ⟨q1, q2, q3, q4⟩ := hm
      have q5 : (ohTo cs m t).1 ≤ 8000 := by omega
      clear hs q2 hr hq em
      revert p1 p2 p3 p4 E1 E2 q1 q3 q4 q5
      generalize (ohTo cs m t).1 = S
      generalize (ohTo cs m t).2 = L
      intro p1 p2 p3 p4 E1 E2 q1 q3 q4 q5
      by_cases hd : mi cs t < L
      · have hmin : min L (mi cs t) = mi cs t := by omega
        rw [hmin] at p1 p2 p3 p4 E1 E2
        clear hmin
        go_wp2
        go_roundg j
        case measure => omega
        case rel => exact ⟨t + 1, by omega, HQ.out, by rw [E2.out], by rw [E1.out], rfl⟩
      · have hmin : min L (mi cs t) = L := by omega
        rw [hmin] at p1 p2 p3 p4 E1 E2
        clear hmin
        go_wp2
        go_roundg j
        case measure => omega
        case rel => exact ⟨t + 1, by omega, HQ.out, by rw [E2.out, Int.sub_self], by rw [E1.out], rfl⟩

end Go.Proofs.Ytoanefccnbnkmaa
