/- Words for the walk of a law: an argument that came in; how one step follows another. -/
import Derived.Test.YtoanefccnbnkmaaProg
import Derived.WalkKit
import Derived.WalkSpells
import Derived.WalkLawsBesides
import Derived.ProofKit
import Derived.OpenShut
import Derived.ShutString
import Derived.ChangeOld
import Derived.Test.YtoanefccnbnkmaaRows
namespace Go.Proofs.Ytoanefccnbnkmaa
open Go.ChangeShapes Go.WideShapes Go.ChangeAt Go.RowKit

open Go

theorem own : ownKnob Try.prog.godebug = none := by kernel_rfl
theorem laidOut : laidOutB Try.prog = true := by kernel_rfl

theorem nextB {W w w' : World} (B : Below W.heap.size W w) (b : Below w.heap.size w w') : Below W.heap.size W w' := B.trans (b.mono B.size)

/-- A test that reads the head's signs, as a function of the signs. -/
def enterFn (P : Program) : {f : List Char → Bool // P.mayEnter = f P.initOrder.toList} :=
  ⟨_, by unfold Program.mayEnter; generalize P.initOrder.toList = L; rfl⟩
def liftsFn (P : Program) : {f : List Char → Bool // P.liftsFinal = f P.initOrder.toList} :=
  ⟨_, by unfold Program.liftsFinal Program.headLifts; generalize P.initOrder.toList = L; rfl⟩
def makeFn (P : Program) : {f : List Char → Option Make // P.make = f P.initOrder.toList} :=
  ⟨_, by unfold Program.make Program.headLifts; generalize P.initOrder.toList = L; rfl⟩
/-- The closed facts of a row, as a function of those three. -/
def factsFn (P : Program) (f : FuncId) (fn : Func) (s : ChangeSpec) (c : OpenClaim) : {g : Bool → Bool → Option Make → Bool // joinedFacts P f fn s c = g P.mayEnter P.liftsFinal P.make} :=
  ⟨_, by unfold joinedFacts; generalize P.mayEnter = x; generalize P.liftsFinal = y; generalize P.make = z; rfl⟩

theorem signs_of {P : Program} {l : List Char} {m : Make} (h : P.initOrder = String.ofList l) (h1 : (enterFn P).1 l = true) (h2 : (liftsFn P).1 l = false) (h3 : (makeFn P).1 l = some m) :
    P.mayEnter = true ∧ P.liftsFinal = false ∧ P.make = some m := by
  have e : P.initOrder.toList = l := by rw [h, String.toList_ofList]
  exact ⟨((enterFn P).2.trans (congrArg (enterFn P).1 e)).trans h1, ((liftsFn P).2.trans (congrArg (liftsFn P).1 e)).trans h2, ((makeFn P).2.trans (congrArg (makeFn P).1 e)).trans h3⟩

theorem facts_of {P : Program} {f : FuncId} {fn : Func} {s : ChangeSpec} {c : OpenClaim} {m : Make} (h : P.mayEnter = true ∧ P.liftsFinal = false ∧ P.make = some m)
    (hr : (factsFn P f fn s c).1 true false (some m) = true) : joinedFacts P f fn s c = true := by
  have e := (factsFn P f fn s c).2
  obtain ⟨h1, h2, h3⟩ := h
  exact e.trans ((congr (congr (congrArg (factsFn P f fn s c).1 h1) h2) h3).trans hr)

set_option maxRecDepth 100000 in
theorem signs : Try.prog.mayEnter = true ∧ Try.prog.liftsFinal = false ∧ Try.prog.make = some .cut := signs_of rfl (by kernel_rfl) (by kernel_rfl) (by kernel_rfl)

end Go.Proofs.Ytoanefccnbnkmaa
