/- Words for the walk of a law: an argument that came in; how one step follows another. -/
import Derived.Test.YtldjnfcdmhcjdaaInts
import Derived.ProofKit
import Derived.OpenShut
import Derived.ShutString
import Derived.ChangeOld
import Derived.Test.YtldjnfcdmhcjdaaRows
namespace Go.Proofs.Ytldjnfcdmhcjdaa
open Go.ChangeShapes Go.WideShapes Go.ChangeAt Go.RowKit

open Go

theorem own : ownKnob Try.prog.godebug = none := by kernel_rfl
theorem laidOut : laidOutB Try.prog = true := by kernel_rfl

/-- A slice of ints that came in, of whatever length. -/
def Sl0 (w : World) (v : Value) (xs : List Int) : Prop :=
  ∃ a n cap, v = .slice a n cap ∧ xs.length = n ∧ n ≤ cap ∧ cap ≤ 9223372036854775807 ∧
    (0 < n → ∃ b off, a = some ⟨b, off, none⟩ ∧ b < w.heap.size ∧ ∀ k, k < n → w.cell? ⟨b, off + k, none⟩ = some (.int .i64 (gi xs k)))

theorem Sl0.sl {w : World} {a : Option Addr} {n cap : Nat} {xs : List Int} (h : Sl0 w (.slice a n cap) xs) (hn : n ≤ 1048576) : Sl w w.heap.size (.slice a n cap) xs := by
  obtain ⟨a', n', cap', he, h1, h2, h3, h4⟩ := h
  cases he
  exact ⟨a, n, cap, rfl, h1, hn, h2, h3, h4⟩

/-- What a reading of a slice of ints gives. -/
theorem sl0_of {H : Type} {enc : TypeId × Value → H} {W : World} {a : Option Addr} {n cap : Nat} {d : DataW H} {p : List MemPlace}
    (h : DataW.Trod enc Try.prog W 0 (fun _ => true) true 22 (.slice a n cap) d p) : ∃ xs, Sl0 W (.slice a n cap) xs := by
  obtain ⟨fuel, hf⟩ := h
  rcases open_ints Try.underlying22 Try.underlying3 (by kernel_rfl) hf with ⟨hcs, _⟩ | ⟨x, l, c, zs, hcs, _, hl, hm, hz, _, hcell, hwz⟩
  · simp [Value.cells] at hcs
    obtain ⟨rfl, rfl, rfl⟩ := hcs
    exact ⟨[], none, 0, 0, rfl, rfl, by omega, by omega, fun h => by omega⟩
  · simp [Value.cells] at hcs
    obtain ⟨rfl, rfl, rfl⟩ := hcs
    simp at hz
    refine ⟨zs.take n, some x, n, cap, rfl, by simp; omega, hl, by simpa [maxLen] using hm, fun hn => ?_⟩
    obtain ⟨b, off, spot⟩ := x
    have hc := hcell 0 (by omega)
    have hspot : spot = none := by simpa [Addr.add] using World.cell?_spot hc
    subst hspot
    refine ⟨b, off, rfl, ?_, fun k hk => ?_⟩
    · have := World.block_lt_of_cell? W _ hc
      simpa [Addr.add] using this
    · have := hcell k (by omega)
      have ea : (⟨b, off, none⟩ : Addr).add k = ⟨b, off + k, none⟩ := by unfold Addr.add; split <;> simp_all
      rw [ea] at this
      rw [show gi (zs.take n) k = zs.getD k 0 from by simp [gi, hk]]
      simpa using this

theorem nextB {W w w' : World} (B : Below W.heap.size W w) (b : Below w.heap.size w w') : Below W.heap.size W w' := B.trans (b.mono B.size)
theorem nextO {W w w' : World} {lo hi : Nat} (B : Below W.heap.size W w) (o : Out lo hi w w') (h : W.heap.size ≤ lo) : Below W.heap.size W w' := B.trans (o.below h B.size)

/-- A test that reads the head's signs, as a function of the signs. -/
def enterFn (P : Program) : {f : List Char → Bool // P.mayEnter = f P.initOrder.toList} :=
  ⟨_, by unfold Program.mayEnter; generalize P.initOrder.toList = L; rfl⟩
def liftsFn (P : Program) : {f : List Char → Bool // P.liftsFinal = f P.initOrder.toList} :=
  ⟨_, by unfold Program.liftsFinal Program.headLifts; generalize P.initOrder.toList = L; rfl⟩
def makeFn (P : Program) : {f : List Char → Option Make // P.make = f P.initOrder.toList} :=
  ⟨_, by unfold Program.make Program.headLifts; generalize P.initOrder.toList = L; rfl⟩
/-- The closed facts of a row, as a function of those three. -/
def factsFn (P : Program) (f : FuncId) (fn : Func) (s : ChangeSpec) (c : OpenClaim) : {g : Bool → Bool → Option Make → Bool // joinedFacts P f fn s c = g P.mayEnter P.liftsFinal P.make} :=
  ⟨_, by unfold joinedFacts; generalize P.mayEnter = x; generalize P.liftsFinal = y; generalize P.make = z; rfl⟩

theorem signs_of {P : Program} {l : List Char} {m : Make} (h : P.initOrder = String.ofList l) (h1 : (enterFn P).1 l = true) (h2 : (liftsFn P).1 l = false) (h3 : (makeFn P).1 l = some m) :
    P.mayEnter = true ∧ P.liftsFinal = false ∧ P.make = some m := by
  have e : P.initOrder.toList = l := by rw [h, String.toList_ofList]
  exact ⟨((enterFn P).2.trans (congrArg (enterFn P).1 e)).trans h1, ((liftsFn P).2.trans (congrArg (liftsFn P).1 e)).trans h2, ((makeFn P).2.trans (congrArg (makeFn P).1 e)).trans h3⟩

theorem facts_of {P : Program} {f : FuncId} {fn : Func} {s : ChangeSpec} {c : OpenClaim} {m : Make} (h : P.mayEnter = true ∧ P.liftsFinal = false ∧ P.make = some m)
    (hr : (factsFn P f fn s c).1 true false (some m) = true) : joinedFacts P f fn s c = true := by
  have e := (factsFn P f fn s c).2
  obtain ⟨h1, h2, h3⟩ := h
  exact e.trans ((congr (congr (congrArg (factsFn P f fn s c).1 h1) h2) h3).trans hr)

set_option maxRecDepth 100000 in
theorem signs : Try.prog.mayEnter = true ∧ Try.prog.liftsFinal = false ∧ Try.prog.make = some .cut := signs_of rfl (by kernel_rfl) (by kernel_rfl) (by kernel_rfl)

end Go.Proofs.Ytldjnfcdmhcjdaa
