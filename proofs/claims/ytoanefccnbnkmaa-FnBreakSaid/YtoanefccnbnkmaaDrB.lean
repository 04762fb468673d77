/- The draw of FnBreak. -/
import Derived.Test.YtoanefccnbnkmaaDrF
import Derived.BigQuiet
namespace Go.Proofs.Ytoanefccnbnkmaa
open Go.RowKit

set_option maxRecDepth 100000 in
theorem drawBreakOpen_any (v : Value) (n hi : Nat) (w : World) (hv : By w hi v n) (hhi : hi ≤ w.heap.size) :
    Calls Try.prog 33 #[v] w fun e w' => ∃ r m f, e = .returned (.tuple #[r, .int .i64 m, .int .i64 f]) ∧ Hid (∃ cs k, Below w.heap.size w w' ∧ SlF 3 w' w'.heap.size r cs k ∧ (-1 ≤ m ∧ m ≤ 402) ∧ (-1 ≤ f ∧ f ≤ 1001)) := by
  go_enter Try.func33, Try.ntmps33
  go_wp2_with fail
  refine (l6Open_any v n hi w hv hhi).mono ?_
  rintro e w1 ⟨rfl, b1, d1⟩
  have hz1 := d1.lt
  have B1 := Lib.hid b1
  have D1 := Lib.hid d1
  clear b1 d1 hv
  go_wp2_with fail
  refine (l91Fault_any hi w.heap.size 0 w1 D1.out (by omega)).mono ?_
  rintro e w2 ⟨r, m, f, rfl, hd⟩
  obtain ⟨cs, k, p, hp, st, wr, hk, hm, hf⟩ := hd.out
  have b2 : Below w.heap.size w w2 := ⟨st.gr.os.trans B1.out.os, st.gr.tape.trans B1.out.tape, st.gr.output.trans B1.out.output, Nat.le_trans B1.out.size st.gr.size, fun j hj => (st.gr.block j (by omega) (by simp; omega)).trans (B1.out.block j hj)⟩
  obtain ⟨y0, y1, y2⟩ := box2 w2 m f 41
  have S3 := Lib.hid (wr.sl.old y0)
  have B3 := Lib.hid (nextW b2 y0)
  have hz3 := y0.size
  clear hd st wr b2 y0 D1
  go_wp2
  go_quiet (fail)
  go_wp2
  go_ret3
  exact ⟨_, m, f, rfl, Lib.hid ⟨cs, k, below_drewN B3.out _, (S3.out.mono hz3).drewN _, hm, hf⟩⟩

end Go.Proofs.Ytoanefccnbnkmaa
