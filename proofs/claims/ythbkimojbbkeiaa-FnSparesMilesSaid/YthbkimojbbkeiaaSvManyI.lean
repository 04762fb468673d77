/- Contracts: ServeMany and ServeCan of the program. -/
import Derived.Test.YthbkimojbbkeiaaSvFrom
namespace Go.Proofs.Ythbkimojbbkeiaa
open Go.RowKit

/-- What counts: the variable in block M holds how many have come. -/
def KM (z M : Nat) (V : List (List Int)) (g : Nat) (W : World) : Prop := z ≤ g ∧ z ≤ W.heap.size ∧ Row W M 3 #[.int .i64 (wrap64 (V.length : Int))]
theorem wrap64_bd (a : Int) : -9223372036854775808 ≤ wrap64 a ∧ wrap64 a ≤ 9223372036854775807 := by unfold wrap64; omega
theorem wrap64_succ (a : Int) : wrap64 (wrap64 a + 1) = wrap64 (a + 1) := by unfold wrap64; omega

theorem count_any (z M S : Nat) (hM : M < z) (hS : S ≤ M) (V : List (List Int)) (p : List Int) (g : Nat) (s : Value) (hs : ∃ a l c, s = .slice a l c) (W : World) (hk : KM z M V g W) :
    Calls Try.prog 74 #[s, .pointer (some ⟨M, 0, none⟩)] W fun e W' => e = .returned (.tuple #[]) ∧ Hid (KM z M (V ++ [p]) g W' ∧ Cb S z W W') := by
  obtain ⟨a, l, c, rfl⟩ := hs
  have c0 := (hk.2.2.cell 0).trans (show _ = some (Value.int .i64 (wrap64 (V.length : Int))) from rfl)
  have f0 := hk.2.2.frozen 0
  have HKK := Lib.hid hk
  have HE := Lib.hid (wrap64_succ (V.length : Int))
  obtain ⟨b1, b2⟩ := wrap64_bd (V.length : Int)
  clear hk
  obtain ⟨x, hx⟩ : ∃ x, wrap64 (V.length : Int) = x := ⟨_, rfl⟩
  rw [hx] at c0 b1 b2 HE
  have HX := Lib.hid hx
  clear hx
  go_enter Try.func74, Try.ntmps74
  go_wp2_with fail
  go_end0
  refine ⟨rfl, Lib.hid ⟨⟨HKK.out.1, by simpa [World.setCell] using HKK.out.2.1, ?_⟩, (Below.refl _ _).setCell (p := ⟨M, 0, none⟩) hS _, fun k hk _ => Below.heap_setCell _ _ _ _ (by show k ≠ M; omega)⟩⟩
  have := HKK.out.2.2.set 0 (.int .i64 (wrap64 (x + 1)))
  rw [HE.out] at this
  rw [List.length_append, List.length_singleton, Int.natCast_add]
  rw [HE.out]
  exact this

theorem hentMany : ∀ (args : Array Value) (W : World), Sem.run Try.prog (callFunc 74 args) W = .ok (.enter 74 args) W := by
  intro args W
  rfl

set_option maxRecDepth 100000 in
set_option maxHeartbeats 4000000 in
theorem implServeMany_b (v1 v2 : Value) (cs ds : List Int) (n m h1 h2 : Nat) (w : World) (hv1 : SlF 2 w h1 v1 cs n) (hv2 : SlF 2 w h2 v2 ds m) :
    Calls Try.prog 37 #[v1, v2] w fun e w' => e = .returned (.int .i64 (smI cs n ds m)) ∧ Below w.heap.size w w' := by
  have HV1 := Lib.hid hv1
  have HV2 := Lib.hid hv2
  clear hv1 hv2
  cases e1 : bothB cs n ds m with
  | false =>
    have HR : Hid (smI cs n ds m = -1) := Lib.hid (by simp [smI, e1])
    go_enter Try.func37, Try.ntmps37
    go_wp2_with fail
    refine (servable_is _ _ cs ds n m _ _ _ HV1.out HV2.out e1).mono ?_
    rintro e w1 ⟨rfl, b1⟩
    go_wp2_with fail
    go_ret
    exact ⟨by rw [HR.out]; rfl, b1⟩
  | true =>
    have HM := Lib.hid (both_bd e1)
    have hbd := many_bd5 (cs := cs) (ds := ds) (p := []) HM.out.1.1 HM.out.2.1
    obtain ⟨M, hM⟩ : ∃ M, manyI cs ds n m [] = M := ⟨_, rfl⟩
    rw [hM] at hbd
    have HR : Hid (smI cs n ds m = (M : Int)) := Lib.hid (by simp [smI, e1, hM])
    have HMM := Lib.hid hM
    clear hM
    go_enter Try.func37, Try.ntmps37
    go_wp2_with fail
    refine (servable_is _ _ cs ds n m _ _ _ HV1.out HV2.out e1).mono ?_
    rintro e w1 ⟨rfl, b1⟩
    have bx := (Below.refl w1.heap.size w1).alloc (Nat.le_refl _) (.cells #[.int .i64 0] 3)
    have hsz := b1.size
    have BX := Lib.hid (nextW b1 bx)
    have RX := Lib.hid (Row.new w1 #[.int .i64 0] 3)
    clear e1 b1 bx
    go_wp2_with fail
    refine (eachServing_any 74 hentMany #[.pointer (some ⟨w1.heap.size, 0, none⟩)] w _ _ (KM (w1.heap.size + 1) w1.heap.size) cs ds n m _ _ _ BX.out HM.out.1.1 HM.out.2.1 HV1.out HV2.out ?_ ?_ ?_).mono ?_
    · rw [World.size_alloc]
      rintro V g g' W W' ⟨k1, k2, k3⟩ ⟨hs, hb⟩ hg
      exact ⟨by omega, by omega, (hb _ k3.lt (by omega) (by omega) (by omega)).trans k3⟩
    · rw [World.size_alloc]
      intro g W hg hb
      have h0 : wrap64 (([] : List (List Int)).length : Int) = 0 := by simp [wrap64]
      refine ⟨hg, by have := hb.size; simpa using this, ?_⟩
      rw [h0]
      exact (hb.block _ (by omega)).trans RX.out
    · rw [World.size_alloc]
      intro p g c q V W _ hS
      exact count_any _ _ _ (by omega) hsz V p g _ ⟨_, _, _, rfl⟩ W hS.kk
    rintro e w2 ⟨rfl, h2⟩
    obtain ⟨g, hk, hb⟩ := h2.out
    have c0 := (hk.2.2.cell 0).trans (show _ = some (Value.int .i64 (wrap64 ((servs cs ds n m []).length : Int))) from rfl)
    have B2 := Lib.hid hb
    have hw : wrap64 ((servs cs ds n m []).length : Int) = (M : Int) := by
      have : (servs cs ds n m []).length = M := HMM.out
      rw [this]
      exact IntWalk.wrap64_in _ ⟨by omega, by omega⟩
    rw [hw] at c0
    clear hw hk hb h2
    go_wp2_with fail
    go_ret
    exact ⟨by rw [HR.out]; rfl, B2.out⟩

theorem implServeCan_b (v1 v2 : Value) (cs ds : List Int) (n m h1 h2 : Nat) (w : World) (hv1 : SlF 2 w h1 v1 cs n) (hv2 : SlF 2 w h2 v2 ds m) :
    Calls Try.prog 43 #[v1, v2] w fun e w' => e = .returned (.bool (scB cs n ds m)) ∧ Below w.heap.size w w' := by
  have HR := Lib.hid (scB_many (cs := cs) (ds := ds) (n := n) (m := m))
  go_enter Try.func43, Try.ntmps43
  go_wp2_with fail
  refine (implServeMany_b _ _ cs ds n m _ _ _ hv1 hv2).mono ?_
  rintro e w1 ⟨rfl, b1⟩
  go_wp2_with fail
  go_ret
  exact ⟨by rw [HR.out]; rfl, b1⟩

end Go.Proofs.Ythbkimojbbkeiaa
