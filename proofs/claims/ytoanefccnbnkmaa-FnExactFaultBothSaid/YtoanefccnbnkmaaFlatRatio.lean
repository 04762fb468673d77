/- Contracts: the small functions of the laws on Ratio values and lists of them. -/
import Derived.Test.YtoanefccnbnkmaaFlat
import Derived.Lib.QuietBelow
namespace Go.Proofs.Ytoanefccnbnkmaa
open Go.RowKit

set_option maxHeartbeats 1000000 in
theorem toRatio_any (x0 x1 : Int) (w : World) :
    Calls Try.prog 20 #[.agg #[.int .i64 x0, .int .i64 x1]] w fun e w' => e = .returned (.agg #[.int .i64 x0, .int .i64 x1]) ∧ Below w.heap.size w w' := by
  go_enter Try.func20, Try.ntmps20
  go_wp2
  refine bodyPost_ret (v := .agg #[.int .i64 x0, .int .i64 x1]) (by simp [results, Try.results20, go_sem]) rfl ⟨rfl, ?_⟩
  exact (((Below.refl _ w).alloc (Nat.le_refl _) _).alloc (by simp) _).alloc (by simp; omega) _

theorem eqRatio_any (x0 x1 y0 y1 : Int) (w : World) :
    Calls Try.prog 46 #[.agg #[.int .i64 x0, .int .i64 x1], .agg #[.int .i64 y0, .int .i64 y1]] w fun e w' => e = .returned (.bool (decide (x0 = y0) && decide (x1 = y1))) ∧ Below w.heap.size w w' := by
  have b0 := Lib.hid (((Below.refl w.heap.size w).alloc (Nat.le_refl _) (.cells #[.int .i64 x0, .int .i64 x1] 31)).alloc (by simp) (.cells #[.int .i64 y0, .int .i64 y1] 31))
  by_cases h0 : x0 = y0
  · have e0 : (x0 != y0) = false := by simp [h0]
    have H0 := Lib.hid h0
    clear h0
    by_cases h1 : x1 = y1
    · have e1 : (x1 != y1) = false := by simp [h1]
      have H1 := Lib.hid h1
      clear h1
      go_enter Try.func46, Try.ntmps46
      go_wp2
      go_ret
      exact ⟨by rw [decide_eq_true H0.out, decide_eq_true H1.out]; rfl, b0.out⟩
    · have e1 : (x1 != y1) = true := by simp [h1]
      have H1 := Lib.hid h1
      clear h1
      go_enter Try.func46, Try.ntmps46
      go_wp2
      go_ret
      exact ⟨by rw [decide_eq_false H1.out]; simp, b0.out⟩
  · have e0 : (x0 != y0) = true := by simp [h0]
    have H0 := Lib.hid h0
    clear h0
    go_enter Try.func46, Try.ntmps46
    go_wp2
    go_ret
    exact ⟨by rw [decide_eq_false H0.out]; simp, b0.out⟩






end Go.Proofs.Ytoanefccnbnkmaa
