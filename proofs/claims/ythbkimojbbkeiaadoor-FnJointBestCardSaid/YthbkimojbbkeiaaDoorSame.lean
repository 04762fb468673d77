/- Contract: sameInts. -/
import Derived.Test.YthbkimojbbkeiaaDoorInts
namespace Go.Proofs.YthbkimojbbkeiaaDoor
open Go.RowKit

theorem sameInts_any (va vb : Value) (xs ys : List Int) (ha hb : Nat) (w : World) (h1 : Sl w ha va xs) (h2 : Sl w hb vb ys) :
    Calls Tryd.prog 20 #[va, vb] w fun e w' => e = .returned (.bool (decide (xs = ys))) ∧ Q w w' := by
  obtain ⟨a, n, cap, rfl, hl, hn, hcap, hcap2, hc⟩ := h1
  obtain ⟨a2, m, cap2, rfl, hl2, hn2, hcap3, hcap4, hc2⟩ := h2
  have HL := Lib.hid hl
  have HL2 := Lib.hid hl2
  clear hl hl2
  by_cases hnm : n = m
  · subst hnm
    go_enter Tryd.func20, Tryd.ntmps20
    go_wp2
    go_loopw [5] (fun i wr => ∃ k : Nat, k ≤ n ∧ i = .int .i64 k ∧ Q w wr ∧ Hid (∀ j, j < k → gi xs j = gi ys j)) (fun i _ => n - (intOf i).toNat)
    case atStart => exact ⟨0, Nat.zero_le _, rfl, ⟨0, rfl⟩, fun j hj => absurd hj (by omega)⟩
    case round =>
      obtain ⟨k, hk, rfl, ⟨d, rfl⟩, hno⟩ := hrel
      by_cases hlt : k < n
      · obtain ⟨b, off, rfl, hbh, hc⟩ := hc (by omega)
        obtain ⟨b2, off2, rfl, hbh2, hc2⟩ := hc2 (by omega)
        have hcell := hc k hlt
        have hcell2 := hc2 k hlt
        clear hc hc2
        by_cases he : gi xs k = gi ys k
        · have hb : (gi xs k != gi ys k) = false := by simp [he]
          have HE := Lib.hid he
          clear he
          go_wp2
          go_quiet (fail)
          go_wp2
          go_roundw
          case rel => exact ⟨k + 1, by omega, by go_num, (by first | exact ⟨_, rfl⟩ | exact Q.more _ _), fun j hj => by
            by_cases hjk : j = k
            · subst hjk; exact HE.out
            · exact hno.out j (by omega)⟩
          case measure => simp [intOf]; omega
        · have hb : (gi xs k != gi ys k) = true := by simp [he]
          have HE := Lib.hid he
          clear he
          go_wp2
          go_quiet (fail)
          go_wp2
          go_ret
          refine ⟨?_, (by first | exact ⟨_, rfl⟩ | exact Q.more _ _)⟩
          have : decide (xs = ys) = false := by
            simp only [decide_eq_false_iff_not]
            rintro rfl
            exact HE.out rfl
          rw [this]; rfl
      · obtain rfl : n = k := by omega
        go_wp2
        go_ret
        refine ⟨?_, ⟨d, rfl⟩⟩
        have : decide (xs = ys) = true := by
          simp only [decide_eq_true_eq]
          exact ext_gi (by rw [HL.out, HL2.out]) (fun j hj => hno.out j (by rw [HL.out] at hj; exact hj))
        rw [this]; rfl
  · go_enter Tryd.func20, Tryd.ntmps20
    go_wp2
    go_ret
    refine ⟨?_, ⟨0, rfl⟩⟩
    have : decide (xs = ys) = false := by
      simp only [decide_eq_false_iff_not]
      rintro rfl
      exact hnm (HL.out.symm.trans HL2.out)
    rw [this]; rfl

theorem sameInts_is {r : Bool} (va vb : Value) (xs ys : List Int) (ha hb : Nat) (w : World) (h1 : Sl w ha va xs) (h2 : Sl w hb vb ys) (h : decide (xs = ys) = r) :
    Calls Tryd.prog 20 #[va, vb] w fun e w' => e = .returned (.bool r) ∧ Q w w' := h ▸ sameInts_any va vb xs ys ha hb w h1 h2

end Go.Proofs.YthbkimojbbkeiaaDoor
