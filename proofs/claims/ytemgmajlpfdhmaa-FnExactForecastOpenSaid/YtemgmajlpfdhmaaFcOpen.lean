/- Contract: ForecastOpen of the program. -/
import Derived.Test.YtemgmajlpfdhmaaFc
namespace Go.Proofs.Ytemgmajlpfdhmaa
open Go.RowKit

theorem implForecastOpen_any (s : ByteArray) (d : Int) (w : World) (hs : s.size ≤ 1048576) :
    Calls Try.prog 8 #[.string s, .int .i64 d] w fun e w' => e = .returned (.int .i64 (fopI s d)) ∧ Below w.heap.size w w' := by
  cases h1 : fcB s with
  | false =>
    go_enter Try.func8, Try.ntmps8
    go_wp2_with fail
    refine (forecastOf_is s _ hs h1).mono ?_
    rintro e w1 ⟨m, rfl, b1, _⟩
    have z1 := b1.size
    go_wp2
    go_ret
    exact ⟨by simp [fopI, h1], b1.alloc z1 _⟩
  | true =>
    have hn := (fcB_true.1 h1).2
    cases h2 : inB d 0 s.size with
    | false =>
      go_enter Try.func8, Try.ntmps8
      go_wp2_with fail
      refine (forecastOf_is s _ hs h1).mono ?_
      rintro e w1 ⟨m, rfl, b1, _⟩
      have z1 := b1.size
      go_wp2_with fail
      refine (within_is _ _ _ _ h2).mono ?_
      rintro e _ ⟨rfl, rfl⟩
      go_wp2
      go_ret
      exact ⟨by simp [fopI, h2], b1.alloc z1 _⟩
    | true =>
      have h2' := inB_true.1 h2
      obtain ⟨d, rfl⟩ := Int.eq_ofNat_of_zero_le h2'.1
      have hd : d ≤ s.size := by omega
      have hf : fopI s (d : Int) = (opn s d : Int) := by simp [fopI, h1, h2]
      have HF := Lib.hid hf
      clear hf h2'
      go_enter Try.func8, Try.ntmps8
      go_wp2_with fail
      refine (forecastOf_is s _ hs h1).mono ?_
      rintro e w1 ⟨m, rfl, b1, hm⟩
      obtain rfl := hm rfl
      have z1 := b1.size
      go_wp2_with fail
      refine (within_is _ _ _ _ h2).mono ?_
      rintro e _ ⟨rfl, rfl⟩
      go_wp2_with fail
      refine (ahead_any s d s.size _ hd hn).mono ?_
      rintro e w2 ⟨rfl, b2⟩
      go_wp2
      go_ret
      exact ⟨by rw [HF.out]; rfl, (b1.alloc z1 _).trans (b2.mono (by simp; omega))⟩

end Go.Proofs.Ytemgmajlpfdhmaa
