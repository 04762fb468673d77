/- Words for the laws on lists of ints that came in; equality of lists of ints as a contract. -/
import Derived.Test.YthbkimojbbkeiaaDoorLawB
import Derived.Test.YthbkimojbbkeiaaDoorInts
namespace Go.Proofs.YthbkimojbbkeiaaDoor
open Go.ChangeShapes Go.WideShapes Go.ChangeAt Go.RowKit

/-- A slice of ints that came in, of whatever length. -/
def Sl0 (w : World) (v : Value) (xs : List Int) : Prop :=
  ∃ a n cap, v = .slice a n cap ∧ xs.length = n ∧ n ≤ cap ∧ cap ≤ 9223372036854775807 ∧
    (0 < n → ∃ b off, a = some ⟨b, off, none⟩ ∧ b < w.heap.size ∧ ∀ k, k < n → w.cell? ⟨b, off + k, none⟩ = some (.int .i64 (gi xs k)))

theorem Sl0.sl {w : World} {a : Option Addr} {n cap : Nat} {xs : List Int} (h : Sl0 w (.slice a n cap) xs) (hn : n ≤ 1048576) : Sl w w.heap.size (.slice a n cap) xs := by
  obtain ⟨a', n', cap', he, h1, h2, h3, h4⟩ := h
  cases he
  exact ⟨a, n, cap, rfl, h1, hn, h2, h3, h4⟩

/-- What a reading of a slice of ints gives. -/
theorem sl0_of {H : Type} {enc : TypeId × Value → H} {W : World} {a : Option Addr} {n cap : Nat} {d : DataW H} {p : List MemPlace}
    (h : DataW.Trod enc Tryd.prog W 0 (fun _ => true) true 40 (.slice a n cap) d p) : ∃ xs, Sl0 W (.slice a n cap) xs := by
  obtain ⟨fuel, hf⟩ := h
  rcases open_ints Tryd.underlying40 Tryd.underlying3 (by kernel_rfl) hf with ⟨hcs, _⟩ | ⟨x, l, c, zs, hcs, _, hl, hm, hz, _, hcell, hwz⟩
  · simp [Value.cells] at hcs
    obtain ⟨rfl, rfl, rfl⟩ := hcs
    exact ⟨[], none, 0, 0, rfl, rfl, by omega, by omega, fun h => by omega⟩
  · simp [Value.cells] at hcs
    obtain ⟨rfl, rfl, rfl⟩ := hcs
    simp at hz
    refine ⟨zs.take n, some x, n, cap, rfl, by simp; omega, hl, by simpa [maxLen] using hm, fun hn => ?_⟩
    obtain ⟨b, off, spot⟩ := x
    have hc := hcell 0 (by omega)
    have hspot : spot = none := by simpa [Addr.add] using World.cell?_spot hc
    subst hspot
    refine ⟨b, off, rfl, ?_, fun k hk => ?_⟩
    · have := World.block_lt_of_cell? W _ hc
      simpa [Addr.add] using this
    · have := hcell k (by omega)
      have ea : (⟨b, off, none⟩ : Addr).add k = ⟨b, off + k, none⟩ := by unfold Addr.add; split <;> simp_all
      rw [ea] at this
      rw [show gi (zs.take n) k = zs.getD k 0 from by simp [gi, hk]]
      simpa using this

theorem eqIntS_b {r : Bool} (va vb : Value) (xs ys : List Int) (ha hb : Nat) (w : World) (h1 : Sl w ha va xs) (h2 : Sl w hb vb ys) (h : decide (xs = ys) = r) :
    Calls Tryd.prog 21 #[va, vb] w fun e w' => e = .returned (.bool r) ∧ Below w.heap.size w w' := (eqIntS_is va vb xs ys ha hb w h1 h2 h).mono fun _ _ ⟨he, hq⟩ => ⟨he, hq.below⟩
end Go.Proofs.YthbkimojbbkeiaaDoor
