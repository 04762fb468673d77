/- Contracts: StowageTanks and StowageMost of the program; slices.Max. -/
import Derived.Test.YtldjnfcdmhcjdaaCnt
import Derived.Test.YtldjnfcdmhcjdaaStowI
namespace Go.Proofs.Ytldjnfcdmhcjdaa
open Go.RowKit

theorem specStowageTanks_b (v0 v1 : Value) (xs ts : List Int) (hi0 hi1 : Nat) (w : World) (hv0 : Sl w hi0 v0 xs) (hv1 : Sl w hi1 v1 ts) :
    Calls Try.prog 40 #[v0, v1] w fun e w' => e = .returned (.int .i64 (tanksI xs ts)) ∧ Below w.heap.size w w' :=
  (specStowageTanks_any v0 v1 xs ts hi0 hi1 w hv0 hv1).mono fun _ _ ⟨he, hq⟩ => ⟨he, hq.below⟩
theorem specStowageMost_b (v0 v1 : Value) (xs ts : List Int) (hi0 hi1 : Nat) (w : World) (hv0 : Sl w hi0 v0 xs) (hv1 : Sl w hi1 v1 ts) :
    Calls Try.prog 42 #[v0, v1] w fun e w' => e = .returned (.int .i64 (mostI xs ts)) ∧ Below w.heap.size w w' :=
  (specStowageMost_any v0 v1 xs ts hi0 hi1 w hv0 hv1).mono fun _ _ ⟨he, hq⟩ => ⟨he, hq.below⟩

theorem implStowageTanks_b (v0 v1 : Value) (xs ts : List Int) (hi0 hi1 : Nat) (w : World) (hv0 : Sl w hi0 v0 xs) (hv1 : Sl w hi1 v1 ts) :
    Calls Try.prog 41 #[v0, v1] w fun e w' => e = .returned (.int .i64 (tanksI xs ts)) ∧ Below w.heap.size w w' := by
  cases h1 : stowB xs ts with
  | false =>
    go_enter Try.func41, Try.ntmps41
    go_wp2_with fail
    refine (implStowageValid_is _ _ xs ts _ _ _ hv0 hv1 h1).mono ?_
    rintro e w1 ⟨rfl, b1⟩
    go_wp2
    go_ret
    exact ⟨by simp [tanksI, h1], b1⟩
  | true =>
    have hst := (stowB_true.1 h1).2.2
    have hin : ∀ i, i < ts.length → 0 ≤ gi ts i ∧ gi ts i ≤ 4 := fun i hi => (hst i hi).1
    have HIN := Lib.hid hin
    have hfin : tanksI xs ts = (usedTo ts ts.length 5 : Int) := by simp [tanksI, h1]
    have HF := Lib.hid hfin
    clear hst hin hfin
    obtain ⟨N, hN⟩ : ∃ N, N = ts.length := ⟨_, rfl⟩
    have HN := Lib.hid hN
    rw [← hN] at HF
    clear hN
    have i0 : ∀ w, (Instr.index 58 (.agg (countsV ts N)) (.int .i64 0)).run Try.prog w = .ok (.int .i64 (cnt ts 0 N : Int)) w := fun _ => by kernel_rfl
    have i1 : ∀ w, (Instr.index 58 (.agg (countsV ts N)) (.int .i64 1)).run Try.prog w = .ok (.int .i64 (cnt ts 1 N : Int)) w := fun _ => by kernel_rfl
    have i2 : ∀ w, (Instr.index 58 (.agg (countsV ts N)) (.int .i64 2)).run Try.prog w = .ok (.int .i64 (cnt ts 2 N : Int)) w := fun _ => by kernel_rfl
    have i3 : ∀ w, (Instr.index 58 (.agg (countsV ts N)) (.int .i64 3)).run Try.prog w = .ok (.int .i64 (cnt ts 3 N : Int)) w := fun _ => by kernel_rfl
    have i4 : ∀ w, (Instr.index 58 (.agg (countsV ts N)) (.int .i64 4)).run Try.prog w = .ok (.int .i64 (cnt ts 4 N : Int)) w := fun _ => by kernel_rfl
    have hi : ∀ t : Nat, t < 5 → ∀ w, (Instr.index 58 (.agg (countsV ts N)) (.int .i64 (t : Int))).run Try.prog w = .ok (.int .i64 (cnt ts (t : Int) N : Int)) w := by
      intro t ht
      match t, ht with
      | 0, _ => exact i0
      | 1, _ => exact i1
      | 2, _ => exact i2
      | 3, _ => exact i3
      | 4, _ => exact i4
    clear i0 i1 i2 i3 i4
    have HI := Lib.hid hi
    clear hi
    go_enter Try.func41, Try.ntmps41
    go_wp2_with fail
    refine (implStowageValid_is _ _ xs ts _ _ _ hv0 hv1 h1).mono ?_
    rintro e w1 ⟨rfl, b1⟩
    go_wp2_with fail
    refine (countsOf_any _ ts _ _ (hv1.old b1) HIN.out).mono ?_
    rintro e w2 ⟨rfl, b2⟩
    have B2 := b1.trans (b2.mono b1.size)
    clear b1 b2
    rw [← HN.out]
    obtain ⟨cv, hcv⟩ : ∃ cv, cv = Value.agg (countsV ts N) := ⟨_, rfl⟩
    rw [← hcv]
    have HCV := Lib.hid hcv
    clear hcv
    go_wp2
    go_loop [5, 14] (fun c i => ∃ t : Nat, t ≤ 5 ∧ i = .int .i64 t ∧ c = .int .i64 (usedTo ts N t : Int)) (fun _ i => 5 - (intOf i).toNat)
    case atStart => exact ⟨0, Nat.zero_le _, rfl, rfl⟩
    case round =>
      obtain ⟨t, ht, rfl, rfl⟩ := hrel
      have hul := usedTo_le ts N t
      by_cases hlt : t < 5
      · have hit := HI.out t hlt
        rw [← HCV.out] at hit
        by_cases hp : 0 < cnt ts (t : Int) N
        · have hs : usedTo ts N (t + 1) = usedTo ts N t + 1 := by simp only [usedTo]; rw [if_pos hp]
          have HS := Lib.hid hs
          clear hs
          go_wp2
          go_round
          case rel => exact ⟨t + 1, by omega, by go_num, by rw [HS.out]; go_num⟩
          case measure => simp [intOf]; omega
        · have hs : usedTo ts N (t + 1) = usedTo ts N t := by simp only [usedTo]; rw [if_neg hp]; rfl
          have hz : ¬ (0 : Int) < (cnt ts (t : Int) N : Int) := by omega
          have HS := Lib.hid hs
          clear hs
          go_wp2
          go_round
          case rel => exact ⟨t + 1, by omega, by go_num, by rw [HS.out]⟩
          case measure => simp [intOf]; omega
      · obtain rfl : t = 5 := by omega
        go_wp2
        go_ret
        exact ⟨by rw [HF.out]; rfl, B2⟩

/-- The greatest of the first k + 1 numbers. -/
def topTo (xs : List Int) : Nat → Int
  | 0 => gi xs 0
  | k + 1 => if topTo xs k < gi xs (k + 1) then gi xs (k + 1) else topTo xs k

theorem slicesMax_any (v : Value) (xs : List Int) (hi : Nat) (w : World) (hv : Sl w hi v xs) (h0 : 0 < xs.length) :
    Calls Try.prog 67 #[v] w fun e w' => e = .returned (.int .i64 (topTo xs (xs.length - 1))) ∧ w = w' := by
  obtain ⟨ad, n, cap, rfl, hl, hn, hcap, hcap2, hc⟩ := hv
  rw [hl] at h0 ⊢
  obtain ⟨b, off, rfl, hb, hc⟩ := hc h0
  have hc0 := hc 0 h0
  simp only [Nat.add_zero] at hc0
  clear hl
  go_enter Try.func67, Try.ntmps67
  go_wp2
  go_loop [3, 4] (fun m i => ∃ k : Nat, k < n ∧ i = .int .i64 ((k : Int) + 1) ∧ m = .int .i64 (topTo xs k)) (fun _ i => n - (intOf i).toNat)
  case atStart => exact ⟨0, h0, rfl, rfl⟩
  case round =>
    obtain ⟨k, hk, rfl, rfl⟩ := hrel
    by_cases hlt : k + 1 < n
    · have hck := hc (k + 1) hlt
      go_wp2
      go_round
      case rel => exact ⟨k + 1, hlt, by go_num, rfl⟩
      case measure => simp [intOf]; omega
    · obtain rfl : n = k + 1 := by omega
      go_wp2
      go_ret
      exact ⟨rfl, rfl⟩

def counts5 (ts : List Int) (N : Nat) : List Int := [(cnt ts 0 N : Int), (cnt ts 1 N : Int), (cnt ts 2 N : Int), (cnt ts 3 N : Int), (cnt ts 4 N : Int)]

theorem counts5_max (ts : List Int) (N : Nat) : topTo (counts5 ts N) 4 = (maxTo (fun t => cnt ts (t : Int) N) 5 : Int) := by
  simp only [topTo, counts5, gi, maxTo]
  simp
  omega

theorem implStowageMost_b (v0 v1 : Value) (xs ts : List Int) (hi0 hi1 : Nat) (w : World) (hv0 : Sl w hi0 v0 xs) (hv1 : Sl w hi1 v1 ts) :
    Calls Try.prog 43 #[v0, v1] w fun e w' => e = .returned (.int .i64 (mostI xs ts)) ∧ Below w.heap.size w w' := by
  cases h1 : stowB xs ts with
  | false =>
    go_enter Try.func43, Try.ntmps43
    go_wp2_with fail
    refine (implStowageValid_is _ _ xs ts _ _ _ hv0 hv1 h1).mono ?_
    rintro e w1 ⟨rfl, b1⟩
    go_wp2
    go_ret
    exact ⟨by simp [mostI, h1], b1⟩
  | true =>
    have hst := (stowB_true.1 h1).2.2
    have hin : ∀ i, i < ts.length → 0 ≤ gi ts i ∧ gi ts i ≤ 4 := fun i hi => (hst i hi).1
    have HIN := Lib.hid hin
    have hfin : mostI xs ts = (maxTo (fun t => cnt ts (t : Int) ts.length) 5 : Int) := by simp [mostI, h1]
    have HF := Lib.hid hfin
    clear hst hin hfin
    obtain ⟨N, hN⟩ : ∃ N, N = ts.length := ⟨_, rfl⟩
    have HN := Lib.hid hN
    rw [← hN] at HF
    clear hN
    go_enter Try.func43, Try.ntmps43
    go_wp2_with fail
    refine (implStowageValid_is _ _ xs ts _ _ _ hv0 hv1 h1).mono ?_
    rintro e w1 ⟨rfl, b1⟩
    go_wp2_with fail
    refine (countsOf_any _ ts _ _ (hv1.old b1) HIN.out).mono ?_
    rintro e w2 ⟨rfl, b2⟩
    have B2 := b1.trans (b2.mono b1.size)
    clear b1 b2
    rw [← HN.out]
    unfold countsV
    go_wp2_with fail
    have hR := Row.new w2 #[.int .i64 (cnt ts 0 N : Int), .int .i64 (cnt ts 1 N : Int), .int .i64 (cnt ts 2 N : Int), .int .i64 (cnt ts 3 N : Int), .int .i64 (cnt ts 4 N : Int)] 58
    have hsl : Sl (w2.alloc (.cells #[.int .i64 (cnt ts 0 N : Int), .int .i64 (cnt ts 1 N : Int), .int .i64 (cnt ts 2 N : Int), .int .i64 (cnt ts 3 N : Int), .int .i64 (cnt ts 4 N : Int)] 58)) (w2.heap.size + 1) (.slice (some ⟨w2.heap.size, 0, none⟩) 5 5) (counts5 ts N) := by
      refine ⟨_, 5, 5, rfl, rfl, by omega, by omega, by omega, fun _ => ⟨w2.heap.size, 0, rfl, by omega, fun k hk => ?_⟩⟩
      rw [Nat.zero_add, hR.cell]
      match k, hk with
      | 0, _ => rfl
      | 1, _ => rfl
      | 2, _ => rfl
      | 3, _ => rfl
      | 4, _ => rfl
    refine (slicesMax_any _ _ _ _ hsl (by simp [counts5])).mono ?_
    rintro e _ ⟨rfl, rfl⟩
    go_wp2
    go_ret
    refine ⟨?_, B2.alloc B2.size _⟩
    rw [HF.out, ← counts5_max]
    rfl

end Go.Proofs.Ytldjnfcdmhcjdaa
