/- Contracts: CableMiles, CableOhms, CableAll of the program. -/
import Derived.Test.YtoanefccnbnkmaaIterC
namespace Go.Proofs.Ytoanefccnbnkmaa
open Go.RowKit

theorem implCableMiles_b (v : Value) (cs : List Int) (n hi : Nat) (w : World) (hv : SlF 3 w hi v cs n) :
    Calls Try.prog 42 #[v] w fun e w' => e = .returned (.int .i64 (milesI cs n)) ∧ Below w.heap.size w w' := by
  cases h1 : cabB cs n with
  | false =>
    go_enter Try.func42, Try.ntmps42
    go_wp2_with fail
    refine (implCableValid_is _ cs n hi _ hv h1).mono ?_
    rintro e w1 ⟨rfl, b1⟩
    go_wp2
    go_ret
    exact ⟨by rw [milesI_no h1]; rfl, b1⟩
  | true =>
    have HM := Lib.hid (milesI_yes h1)
    have HT := Lib.hid (cabB_true.1 h1)
    go_enter Try.func42, Try.ntmps42
    go_wp2_with fail
    refine (implCableValid_is _ cs n hi _ hv h1).mono ?_
    rintro e w1 ⟨rfl, b1⟩
    have B1 := Lib.hid b1
    have V1 := Lib.hid (hv.old b1)
    clear b1
    go_wp2_with fail
    refine (linkOf_any _ cs n hi _ V1.out).mono ?_
    rintro e w2 ⟨p, rfl, b2, k2⟩
    have B2 := Lib.hid (B1.out.trans (b2.mono B1.out.size))
    have K2 := Lib.hid k2
    clear b2 k2
    go_wp2_with fail
    refine (length_any cs n _ _ _ K2.out HT.out.2 HT.out.1.2).mono ?_
    rintro e _ ⟨rfl, rfl⟩
    go_wp2
    go_ret
    exact ⟨by rw [HM.out]; rfl, B2.out⟩

theorem implCableOhms_b (v : Value) (m : Int) (cs : List Int) (n hi : Nat) (w : World) (hv : SlF 3 w hi v cs n) :
    Calls Try.prog 54 #[v, .int .i64 m] w fun e w' => e = .returned (.int .i64 (ohmsI cs n m)) ∧ Below w.heap.size w w' := by
  cases h1 : inB m 0 (milesI cs n) with
  | false =>
    go_enter Try.func54, Try.ntmps54
    go_wp2_with fail
    refine (implCableMiles_b _ cs n hi _ hv).mono ?_
    rintro e w1 ⟨rfl, b1⟩
    go_wp2_with fail
    refine (within_is _ _ _ _ h1).mono ?_
    rintro e _ ⟨rfl, rfl⟩
    go_wp2
    go_ret
    exact ⟨by rw [ohmsI, h1]; rfl, b1⟩
  | true =>
    have hin := inB_true.1 h1
    have hcb : cabB cs n = true := by
      cases e : cabB cs n with
      | true => rfl
      | false => rw [milesI_no e] at hin; omega
    have hm0 := hin.1
    have HM := Lib.hid (ohmsI_yes hin.1 hin.2)
    have HT := Lib.hid (cabB_true.1 hcb)
    have hm4 : m ≤ 400 := by have := milesI_bd (cs := cs) (n := n); omega
    clear hin hcb
    go_enter Try.func54, Try.ntmps54
    go_wp2_with fail
    refine (implCableMiles_b _ cs n hi _ hv).mono ?_
    rintro e w1 ⟨rfl, b1⟩
    go_wp2_with fail
    refine (within_is _ _ _ _ h1).mono ?_
    rintro e _ ⟨rfl, rfl⟩
    have B1 := Lib.hid b1
    have V1 := Lib.hid (hv.old b1)
    clear b1 h1
    go_wp2_with fail
    refine (linkOf_any _ cs n hi _ V1.out).mono ?_
    rintro e w2 ⟨p, rfl, b2, k2⟩
    have B2 := Lib.hid (B1.out.trans (b2.mono B1.out.size))
    have K2 := Lib.hid k2
    clear b2 k2
    go_wp2_with fail
    refine (resistance_any cs n _ _ m _ K2.out HT.out.2 HT.out.1.2 hm0 hm4).mono ?_
    rintro e _ ⟨rfl, rfl⟩
    go_wp2
    go_ret
    exact ⟨by rw [HM.out]; rfl, B2.out⟩

theorem implCableAll_b (v : Value) (cs : List Int) (n hi : Nat) (w : World) (hv : SlF 3 w hi v cs n) :
    Calls Try.prog 53 #[v] w fun e w' => e = .returned (.int .i64 (allI cs n)) ∧ Below w.heap.size w w' := by
  go_enter Try.func53, Try.ntmps53
  go_wp2_with fail
  refine (implCableMiles_b _ cs n hi _ hv).mono ?_
  rintro e w1 ⟨rfl, b1⟩
  have B1 := Lib.hid b1
  have V1 := Lib.hid (hv.old b1)
  clear b1
  go_wp2_with fail
  refine (implCableOhms_b _ _ cs n hi _ V1.out).mono ?_
  rintro e w2 ⟨rfl, b2⟩
  have B2 := Lib.hid (B1.out.trans (b2.mono B1.out.size))
  clear b2
  go_wp2
  go_ret
  exact ⟨rfl, B2.out⟩

end Go.Proofs.Ytoanefccnbnkmaa
