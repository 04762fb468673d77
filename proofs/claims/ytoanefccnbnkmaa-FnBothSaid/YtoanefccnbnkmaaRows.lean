/-
  No cell of these rows narrows 'for every input' (looked for: loops, veiled, ifaces, maps, wideKeys, modest, calm, conditions, laid).
  DERIVED. THE GIVEN ROWS OF THIS SEAT. 14 by the template 'for every input the law returns true; each argument reads behind the call as it read before'; 0 by the template 'total and deterministic' (their statements: YtoanefccnbnkmaaTotals.lean).
  GIVEN WITH THE SEED: the statements are not yours to turn. If you find one false, say at which input.
  Laid BY PROGRAM, IN A SANDBOX (cutbox-rows.mjs): the forced cells as the released guide's own fill.sh prints them over the translation d6e08404b3ba3d74… (all of the seat's roots in one cut). By AI agents, Wed Nov 11 2026. No macro, syntax, notation, axiom, sorry.
-/
import Derived.Test.YtoanefccnbnkmaaChecked
import GoSem.Claim
import GoSem.ClaimJoined
import GoSem.ClaimMapViews
import Derived.JoinedTies
import Derived.KernelRfl
namespace Go.Proofs.Ytoanefccnbnkmaa
/- THE CELL 'sum', in the pinned program and in every row, IS THE sha256 OF THE DUMP (.gsa) THAT YtoanefccnbnkmaaProg.lean LOADS. Nothing in Lean hashes anything: it is a label: what it is worth is what the hold of that sum in a sandbox is worth. -/
noncomputable def Try.pinned : Pinned := { name := "ytoanefccnbnkmaa", sum := "d6e08404b3ba3d740020c40ad00ccec01f2270081bfe34f81d009dc7055c493a", checked := Try.checked }
namespace Rows
def none {H : Type} : Left H := { results := [], args := [] }

/-- 'laws.FnExactFaultBoth': WHATEVER THE INPUT: true; the input reads as it did. -/
def fnExactFaultBothSpec : ChangeSpec := { name := "fnExactFaultBoth", fn := fun _ => fun
  | [d1, d2, d3] => { results := [.lit (.bool true)], args := [d1, d2, d3] }
  | _ => none }
def fnExactFaultBothRow : OpenClaim := { program := "ytoanefccnbnkmaa", sum := "d6e08404b3ba3d740020c40ad00ccec01f2270081bfe34f81d009dc7055c493a", func := "loop.example/cableship/laws.FnExactFaultBoth", spec := "fnExactFaultBoth", unfollowed := true, recurses := true, apart := false }
def FnExactFaultBothSaid : Prop := fnExactFaultBothRow.holds Try.pinned (OpenSpec.ofChange fnExactFaultBothSpec)

/-- ITS FALSE NEIGHBOUR: 'it returns false'. Refute it at one input. -/
def fnExactFaultBothWrong : ChangeSpec := { name := "fnExactFaultBoth", fn := fun _ => fun
  | [d1, d2, d3] => { results := [.lit (.bool false)], args := [d1, d2, d3] }
  | _ => none }
def FnExactFaultBothWrongFalsely : Prop := fnExactFaultBothRow.holds Try.pinned (OpenSpec.ofChange fnExactFaultBothWrong)

/-- 'laws.FnExactFaultLess': WHATEVER THE INPUT: true; the input reads as it did. -/
def fnExactFaultLessSpec : ChangeSpec := { name := "fnExactFaultLess", fn := fun _ => fun
  | [d1, d2, d3] => { results := [.lit (.bool true)], args := [d1, d2, d3] }
  | _ => none }
def fnExactFaultLessRow : OpenClaim := { program := "ytoanefccnbnkmaa", sum := "d6e08404b3ba3d740020c40ad00ccec01f2270081bfe34f81d009dc7055c493a", func := "loop.example/cableship/laws.FnExactFaultLess", spec := "fnExactFaultLess", unfollowed := true, recurses := true, apart := false }
def FnExactFaultLessSaid : Prop := fnExactFaultLessRow.holds Try.pinned (OpenSpec.ofChange fnExactFaultLessSpec)

/-- ITS FALSE NEIGHBOUR: 'it returns false'. Refute it at one input. -/
def fnExactFaultLessWrong : ChangeSpec := { name := "fnExactFaultLess", fn := fun _ => fun
  | [d1, d2, d3] => { results := [.lit (.bool false)], args := [d1, d2, d3] }
  | _ => none }
def FnExactFaultLessWrongFalsely : Prop := fnExactFaultLessRow.holds Try.pinned (OpenSpec.ofChange fnExactFaultLessWrong)

/-- 'laws.FnExactFaultFind': WHATEVER THE INPUT: true; the input reads as it did. -/
def fnExactFaultFindSpec : ChangeSpec := { name := "fnExactFaultFind", fn := fun _ => fun
  | [d1, d2, d3] => { results := [.lit (.bool true)], args := [d1, d2, d3] }
  | _ => none }
def fnExactFaultFindRow : OpenClaim := { program := "ytoanefccnbnkmaa", sum := "d6e08404b3ba3d740020c40ad00ccec01f2270081bfe34f81d009dc7055c493a", func := "loop.example/cableship/laws.FnExactFaultFind", spec := "fnExactFaultFind", unfollowed := true, recurses := true, apart := false }
def FnExactFaultFindSaid : Prop := fnExactFaultFindRow.holds Try.pinned (OpenSpec.ofChange fnExactFaultFindSpec)

/-- ITS FALSE NEIGHBOUR: 'it returns false'. Refute it at one input. -/
def fnExactFaultFindWrong : ChangeSpec := { name := "fnExactFaultFind", fn := fun _ => fun
  | [d1, d2, d3] => { results := [.lit (.bool false)], args := [d1, d2, d3] }
  | _ => none }
def FnExactFaultFindWrongFalsely : Prop := fnExactFaultFindRow.holds Try.pinned (OpenSpec.ofChange fnExactFaultFindWrong)

/-- 'laws.FnBreak': WHATEVER THE INPUT: true; the input reads as it did. -/
def fnBreakSpec : ChangeSpec := { name := "fnBreak", fn := fun _ => fun
  | [d] => { results := [.lit (.bool true)], args := [d] }
  | _ => none }
def fnBreakRow : OpenClaim := { program := "ytoanefccnbnkmaa", sum := "d6e08404b3ba3d740020c40ad00ccec01f2270081bfe34f81d009dc7055c493a", func := "loop.example/cableship/laws.FnBreak", spec := "fnBreak", unfollowed := true, recurses := true, apart := false }
def FnBreakSaid : Prop := fnBreakRow.holds Try.pinned (OpenSpec.ofChange fnBreakSpec)

/-- ITS FALSE NEIGHBOUR: 'it returns false'. Refute it at one input. -/
def fnBreakWrong : ChangeSpec := { name := "fnBreak", fn := fun _ => fun
  | [d] => { results := [.lit (.bool false)], args := [d] }
  | _ => none }
def FnBreakWrongFalsely : Prop := fnBreakRow.holds Try.pinned (OpenSpec.ofChange fnBreakWrong)

/-- 'laws.FnOne': WHATEVER THE INPUT: true; the input reads as it did. -/
def fnOneSpec : ChangeSpec := { name := "fnOne", fn := fun _ => fun
  | [d] => { results := [.lit (.bool true)], args := [d] }
  | _ => none }
def fnOneRow : OpenClaim := { program := "ytoanefccnbnkmaa", sum := "d6e08404b3ba3d740020c40ad00ccec01f2270081bfe34f81d009dc7055c493a", func := "loop.example/cableship/laws.FnOne", spec := "fnOne", unfollowed := true, recurses := true, apart := false }
def FnOneSaid : Prop := fnOneRow.holds Try.pinned (OpenSpec.ofChange fnOneSpec)

/-- ITS FALSE NEIGHBOUR: 'it returns false'. Refute it at one input. -/
def fnOneWrong : ChangeSpec := { name := "fnOne", fn := fun _ => fun
  | [d] => { results := [.lit (.bool false)], args := [d] }
  | _ => none }
def FnOneWrongFalsely : Prop := fnOneRow.holds Try.pinned (OpenSpec.ofChange fnOneWrong)

/-- 'laws.FnFind': WHATEVER THE INPUT: true; the input reads as it did. -/
def fnFindSpec : ChangeSpec := { name := "fnFind", fn := fun _ => fun
  | [d] => { results := [.lit (.bool true)], args := [d] }
  | _ => none }
def fnFindRow : OpenClaim := { program := "ytoanefccnbnkmaa", sum := "d6e08404b3ba3d740020c40ad00ccec01f2270081bfe34f81d009dc7055c493a", func := "loop.example/cableship/laws.FnFind", spec := "fnFind", unfollowed := true, recurses := true, apart := false }
def FnFindSaid : Prop := fnFindRow.holds Try.pinned (OpenSpec.ofChange fnFindSpec)

/-- ITS FALSE NEIGHBOUR: 'it returns false'. Refute it at one input. -/
def fnFindWrong : ChangeSpec := { name := "fnFind", fn := fun _ => fun
  | [d] => { results := [.lit (.bool false)], args := [d] }
  | _ => none }
def FnFindWrongFalsely : Prop := fnFindRow.holds Try.pinned (OpenSpec.ofChange fnFindWrong)

/-- 'laws.FnExactFaultEarthed': WHATEVER THE INPUT: true; the input reads as it did. -/
def fnExactFaultEarthedSpec : ChangeSpec := { name := "fnExactFaultEarthed", fn := fun _ => fun
  | [d1, d2] => { results := [.lit (.bool true)], args := [d1, d2] }
  | _ => none }
def fnExactFaultEarthedRow : OpenClaim := { program := "ytoanefccnbnkmaa", sum := "d6e08404b3ba3d740020c40ad00ccec01f2270081bfe34f81d009dc7055c493a", func := "loop.example/cableship/laws.FnExactFaultEarthed", spec := "fnExactFaultEarthed", unfollowed := true, recurses := true, apart := false }
def FnExactFaultEarthedSaid : Prop := fnExactFaultEarthedRow.holds Try.pinned (OpenSpec.ofChange fnExactFaultEarthedSpec)

/-- ITS FALSE NEIGHBOUR: 'it returns false'. Refute it at one input. -/
def fnExactFaultEarthedWrong : ChangeSpec := { name := "fnExactFaultEarthed", fn := fun _ => fun
  | [d1, d2] => { results := [.lit (.bool false)], args := [d1, d2] }
  | _ => none }
def FnExactFaultEarthedWrongFalsely : Prop := fnExactFaultEarthedRow.holds Try.pinned (OpenSpec.ofChange fnExactFaultEarthedWrong)

/-- 'laws.FnExactFaultFar': WHATEVER THE INPUT: true; the input reads as it did. -/
def fnExactFaultFarSpec : ChangeSpec := { name := "fnExactFaultFar", fn := fun _ => fun
  | [d1, d2] => { results := [.lit (.bool true)], args := [d1, d2] }
  | _ => none }
def fnExactFaultFarRow : OpenClaim := { program := "ytoanefccnbnkmaa", sum := "d6e08404b3ba3d740020c40ad00ccec01f2270081bfe34f81d009dc7055c493a", func := "loop.example/cableship/laws.FnExactFaultFar", spec := "fnExactFaultFar", unfollowed := true, recurses := true, apart := false }
def FnExactFaultFarSaid : Prop := fnExactFaultFarRow.holds Try.pinned (OpenSpec.ofChange fnExactFaultFarSpec)

/-- ITS FALSE NEIGHBOUR: 'it returns false'. Refute it at one input. -/
def fnExactFaultFarWrong : ChangeSpec := { name := "fnExactFaultFar", fn := fun _ => fun
  | [d1, d2] => { results := [.lit (.bool false)], args := [d1, d2] }
  | _ => none }
def FnExactFaultFarWrongFalsely : Prop := fnExactFaultFarRow.holds Try.pinned (OpenSpec.ofChange fnExactFaultFarWrong)

/-- 'laws.FnFaultLess': WHATEVER THE INPUT: true; the input reads as it did. -/
def fnFaultLessSpec : ChangeSpec := { name := "fnFaultLess", fn := fun _ => fun
  | [d] => { results := [.lit (.bool true)], args := [d] }
  | _ => none }
def fnFaultLessRow : OpenClaim := { program := "ytoanefccnbnkmaa", sum := "d6e08404b3ba3d740020c40ad00ccec01f2270081bfe34f81d009dc7055c493a", func := "loop.example/cableship/laws.FnFaultLess", spec := "fnFaultLess", unfollowed := true, recurses := true, apart := false }
def FnFaultLessSaid : Prop := fnFaultLessRow.holds Try.pinned (OpenSpec.ofChange fnFaultLessSpec)

/-- ITS FALSE NEIGHBOUR: 'it returns false'. Refute it at one input. -/
def fnFaultLessWrong : ChangeSpec := { name := "fnFaultLess", fn := fun _ => fun
  | [d] => { results := [.lit (.bool false)], args := [d] }
  | _ => none }
def FnFaultLessWrongFalsely : Prop := fnFaultLessRow.holds Try.pinned (OpenSpec.ofChange fnFaultLessWrong)

/-- 'laws.FnExactFaultOne': WHATEVER THE INPUT: true; the input reads as it did. -/
def fnExactFaultOneSpec : ChangeSpec := { name := "fnExactFaultOne", fn := fun _ => fun
  | [d1, d2] => { results := [.lit (.bool true)], args := [d1, d2] }
  | _ => none }
def fnExactFaultOneRow : OpenClaim := { program := "ytoanefccnbnkmaa", sum := "d6e08404b3ba3d740020c40ad00ccec01f2270081bfe34f81d009dc7055c493a", func := "loop.example/cableship/laws.FnExactFaultOne", spec := "fnExactFaultOne", unfollowed := true, recurses := true, apart := false }
def FnExactFaultOneSaid : Prop := fnExactFaultOneRow.holds Try.pinned (OpenSpec.ofChange fnExactFaultOneSpec)

/-- ITS FALSE NEIGHBOUR: 'it returns false'. Refute it at one input. -/
def fnExactFaultOneWrong : ChangeSpec := { name := "fnExactFaultOne", fn := fun _ => fun
  | [d1, d2] => { results := [.lit (.bool false)], args := [d1, d2] }
  | _ => none }
def FnExactFaultOneWrongFalsely : Prop := fnExactFaultOneRow.holds Try.pinned (OpenSpec.ofChange fnExactFaultOneWrong)

/-- 'laws.FnFar': WHATEVER THE INPUT: true; the input reads as it did. -/
def fnFarSpec : ChangeSpec := { name := "fnFar", fn := fun _ => fun
  | [d] => { results := [.lit (.bool true)], args := [d] }
  | _ => none }
def fnFarRow : OpenClaim := { program := "ytoanefccnbnkmaa", sum := "d6e08404b3ba3d740020c40ad00ccec01f2270081bfe34f81d009dc7055c493a", func := "loop.example/cableship/laws.FnFar", spec := "fnFar", unfollowed := true, recurses := true, apart := false }
def FnFarSaid : Prop := fnFarRow.holds Try.pinned (OpenSpec.ofChange fnFarSpec)

/-- ITS FALSE NEIGHBOUR: 'it returns false'. Refute it at one input. -/
def fnFarWrong : ChangeSpec := { name := "fnFar", fn := fun _ => fun
  | [d] => { results := [.lit (.bool false)], args := [d] }
  | _ => none }
def FnFarWrongFalsely : Prop := fnFarRow.holds Try.pinned (OpenSpec.ofChange fnFarWrong)

/-- 'laws.FnOpen': WHATEVER THE INPUT: true; the input reads as it did. -/
def fnOpenSpec : ChangeSpec := { name := "fnOpen", fn := fun _ => fun
  | [d] => { results := [.lit (.bool true)], args := [d] }
  | _ => none }
def fnOpenRow : OpenClaim := { program := "ytoanefccnbnkmaa", sum := "d6e08404b3ba3d740020c40ad00ccec01f2270081bfe34f81d009dc7055c493a", func := "loop.example/cableship/laws.FnOpen", spec := "fnOpen", unfollowed := true, recurses := true, apart := false }
def FnOpenSaid : Prop := fnOpenRow.holds Try.pinned (OpenSpec.ofChange fnOpenSpec)

/-- ITS FALSE NEIGHBOUR: 'it returns false'. Refute it at one input. -/
def fnOpenWrong : ChangeSpec := { name := "fnOpen", fn := fun _ => fun
  | [d] => { results := [.lit (.bool false)], args := [d] }
  | _ => none }
def FnOpenWrongFalsely : Prop := fnOpenRow.holds Try.pinned (OpenSpec.ofChange fnOpenWrong)

/-- 'laws.FnEarthed': WHATEVER THE INPUT: true; the input reads as it did. -/
def fnEarthedSpec : ChangeSpec := { name := "fnEarthed", fn := fun _ => fun
  | [d] => { results := [.lit (.bool true)], args := [d] }
  | _ => none }
def fnEarthedRow : OpenClaim := { program := "ytoanefccnbnkmaa", sum := "d6e08404b3ba3d740020c40ad00ccec01f2270081bfe34f81d009dc7055c493a", func := "loop.example/cableship/laws.FnEarthed", spec := "fnEarthed", unfollowed := true, recurses := true, apart := false }
def FnEarthedSaid : Prop := fnEarthedRow.holds Try.pinned (OpenSpec.ofChange fnEarthedSpec)

/-- ITS FALSE NEIGHBOUR: 'it returns false'. Refute it at one input. -/
def fnEarthedWrong : ChangeSpec := { name := "fnEarthed", fn := fun _ => fun
  | [d] => { results := [.lit (.bool false)], args := [d] }
  | _ => none }
def FnEarthedWrongFalsely : Prop := fnEarthedRow.holds Try.pinned (OpenSpec.ofChange fnEarthedWrong)

/-- 'laws.FnBoth': WHATEVER THE INPUT: true; the input reads as it did. -/
def fnBothSpec : ChangeSpec := { name := "fnBoth", fn := fun _ => fun
  | [d] => { results := [.lit (.bool true)], args := [d] }
  | _ => none }
def fnBothRow : OpenClaim := { program := "ytoanefccnbnkmaa", sum := "d6e08404b3ba3d740020c40ad00ccec01f2270081bfe34f81d009dc7055c493a", func := "loop.example/cableship/laws.FnBoth", spec := "fnBoth", unfollowed := true, recurses := true, apart := false }
def FnBothSaid : Prop := fnBothRow.holds Try.pinned (OpenSpec.ofChange fnBothSpec)

/-- ITS FALSE NEIGHBOUR: 'it returns false'. Refute it at one input. -/
def fnBothWrong : ChangeSpec := { name := "fnBoth", fn := fun _ => fun
  | [d] => { results := [.lit (.bool false)], args := [d] }
  | _ => none }
def FnBothWrongFalsely : Prop := fnBothRow.holds Try.pinned (OpenSpec.ofChange fnBothWrong)

/- THE SECOND FORM. 'bulk': how many values and letters a reading holds, each counted each time it is reached (what is shared counts as often as it is met; a slice's spare places count too). A statement '..UptoSaid' is the law's where the arguments, and the package variables that the reading takes, are together of bulk at most 1048576: NARROWER than '..Said'. Prove '..Said' where nothing that the law and all that it calls make is longer than what came in: it says more and counts as full. Else prove '..UptoSaid'. A law counts once. -/
mutual
def uptoBulk {H : Type} : DataW H → Nat
  | .lit (.string bytes) => bytes.length + 1
  | .lit _ => 1
  | .nil => 1
  | .ptr d => uptoBulk d + 1
  | .slice elems spare => uptoBulkAll elems + uptoBulkAll spare + 1
  | .agg parts => uptoBulkAll parts + 1
  | .iface _ d => uptoBulk d + 1
  | .map entries => uptoBulkEntries entries + 1
  | .held _ => 1
def uptoBulkAll {H : Type} : List (DataW H) → Nat
  | [] => 0
  | d :: r => uptoBulk d + uptoBulkAll r
def uptoBulkEntries {H : Type} : List (Lit × DataW H) → Nat
  | [] => 0
  | x :: r => uptoBulkEntry x + uptoBulkEntries r
def uptoBulkEntry {H : Type} : Lit × DataW H → Nat
  | (.string bytes, d) => bytes.length + uptoBulk d + 1
  | (_, d) => uptoBulk d + 1
 end
def uptoSmall : (H : Type) → List (DataW H) → Bool := fun _ ds => decide (uptoBulkAll ds ≤ 1048576)
def OpenSpec.upto (s : _root_.Go.ChangeSpec) : _root_.Go.OpenSpec := { _root_.Go.OpenSpec.ofChange s with cond := some uptoSmall }

/-- 'laws.FnExactFaultBoth', WHERE WHAT IT READS IS OF BULK AT MOST 1048576: true; the input reads as it did. -/
def fnExactFaultBothUptoRow : OpenClaim := { program := "ytoanefccnbnkmaa", sum := "d6e08404b3ba3d740020c40ad00ccec01f2270081bfe34f81d009dc7055c493a", func := "loop.example/cableship/laws.FnExactFaultBoth", spec := "fnExactFaultBoth", unfollowed := true, recurses := true, apart := false, narrowed := true }
def FnExactFaultBothUptoSaid : Prop := fnExactFaultBothUptoRow.holds Try.pinned (OpenSpec.upto fnExactFaultBothSpec)

/-- 'laws.FnExactFaultLess', WHERE WHAT IT READS IS OF BULK AT MOST 1048576: true; the input reads as it did. -/
def fnExactFaultLessUptoRow : OpenClaim := { program := "ytoanefccnbnkmaa", sum := "d6e08404b3ba3d740020c40ad00ccec01f2270081bfe34f81d009dc7055c493a", func := "loop.example/cableship/laws.FnExactFaultLess", spec := "fnExactFaultLess", unfollowed := true, recurses := true, apart := false, narrowed := true }
def FnExactFaultLessUptoSaid : Prop := fnExactFaultLessUptoRow.holds Try.pinned (OpenSpec.upto fnExactFaultLessSpec)

/-- 'laws.FnExactFaultFind', WHERE WHAT IT READS IS OF BULK AT MOST 1048576: true; the input reads as it did. -/
def fnExactFaultFindUptoRow : OpenClaim := { program := "ytoanefccnbnkmaa", sum := "d6e08404b3ba3d740020c40ad00ccec01f2270081bfe34f81d009dc7055c493a", func := "loop.example/cableship/laws.FnExactFaultFind", spec := "fnExactFaultFind", unfollowed := true, recurses := true, apart := false, narrowed := true }
def FnExactFaultFindUptoSaid : Prop := fnExactFaultFindUptoRow.holds Try.pinned (OpenSpec.upto fnExactFaultFindSpec)

/-- 'laws.FnBreak', WHERE WHAT IT READS IS OF BULK AT MOST 1048576: true; the input reads as it did. -/
def fnBreakUptoRow : OpenClaim := { program := "ytoanefccnbnkmaa", sum := "d6e08404b3ba3d740020c40ad00ccec01f2270081bfe34f81d009dc7055c493a", func := "loop.example/cableship/laws.FnBreak", spec := "fnBreak", unfollowed := true, recurses := true, apart := false, narrowed := true }
def FnBreakUptoSaid : Prop := fnBreakUptoRow.holds Try.pinned (OpenSpec.upto fnBreakSpec)

/-- 'laws.FnOne', WHERE WHAT IT READS IS OF BULK AT MOST 1048576: true; the input reads as it did. -/
def fnOneUptoRow : OpenClaim := { program := "ytoanefccnbnkmaa", sum := "d6e08404b3ba3d740020c40ad00ccec01f2270081bfe34f81d009dc7055c493a", func := "loop.example/cableship/laws.FnOne", spec := "fnOne", unfollowed := true, recurses := true, apart := false, narrowed := true }
def FnOneUptoSaid : Prop := fnOneUptoRow.holds Try.pinned (OpenSpec.upto fnOneSpec)

/-- 'laws.FnFind', WHERE WHAT IT READS IS OF BULK AT MOST 1048576: true; the input reads as it did. -/
def fnFindUptoRow : OpenClaim := { program := "ytoanefccnbnkmaa", sum := "d6e08404b3ba3d740020c40ad00ccec01f2270081bfe34f81d009dc7055c493a", func := "loop.example/cableship/laws.FnFind", spec := "fnFind", unfollowed := true, recurses := true, apart := false, narrowed := true }
def FnFindUptoSaid : Prop := fnFindUptoRow.holds Try.pinned (OpenSpec.upto fnFindSpec)

/-- 'laws.FnExactFaultEarthed', WHERE WHAT IT READS IS OF BULK AT MOST 1048576: true; the input reads as it did. -/
def fnExactFaultEarthedUptoRow : OpenClaim := { program := "ytoanefccnbnkmaa", sum := "d6e08404b3ba3d740020c40ad00ccec01f2270081bfe34f81d009dc7055c493a", func := "loop.example/cableship/laws.FnExactFaultEarthed", spec := "fnExactFaultEarthed", unfollowed := true, recurses := true, apart := false, narrowed := true }
def FnExactFaultEarthedUptoSaid : Prop := fnExactFaultEarthedUptoRow.holds Try.pinned (OpenSpec.upto fnExactFaultEarthedSpec)

/-- 'laws.FnExactFaultFar', WHERE WHAT IT READS IS OF BULK AT MOST 1048576: true; the input reads as it did. -/
def fnExactFaultFarUptoRow : OpenClaim := { program := "ytoanefccnbnkmaa", sum := "d6e08404b3ba3d740020c40ad00ccec01f2270081bfe34f81d009dc7055c493a", func := "loop.example/cableship/laws.FnExactFaultFar", spec := "fnExactFaultFar", unfollowed := true, recurses := true, apart := false, narrowed := true }
def FnExactFaultFarUptoSaid : Prop := fnExactFaultFarUptoRow.holds Try.pinned (OpenSpec.upto fnExactFaultFarSpec)

/-- 'laws.FnFaultLess', WHERE WHAT IT READS IS OF BULK AT MOST 1048576: true; the input reads as it did. -/
def fnFaultLessUptoRow : OpenClaim := { program := "ytoanefccnbnkmaa", sum := "d6e08404b3ba3d740020c40ad00ccec01f2270081bfe34f81d009dc7055c493a", func := "loop.example/cableship/laws.FnFaultLess", spec := "fnFaultLess", unfollowed := true, recurses := true, apart := false, narrowed := true }
def FnFaultLessUptoSaid : Prop := fnFaultLessUptoRow.holds Try.pinned (OpenSpec.upto fnFaultLessSpec)

/-- 'laws.FnExactFaultOne', WHERE WHAT IT READS IS OF BULK AT MOST 1048576: true; the input reads as it did. -/
def fnExactFaultOneUptoRow : OpenClaim := { program := "ytoanefccnbnkmaa", sum := "d6e08404b3ba3d740020c40ad00ccec01f2270081bfe34f81d009dc7055c493a", func := "loop.example/cableship/laws.FnExactFaultOne", spec := "fnExactFaultOne", unfollowed := true, recurses := true, apart := false, narrowed := true }
def FnExactFaultOneUptoSaid : Prop := fnExactFaultOneUptoRow.holds Try.pinned (OpenSpec.upto fnExactFaultOneSpec)

/-- 'laws.FnFar', WHERE WHAT IT READS IS OF BULK AT MOST 1048576: true; the input reads as it did. -/
def fnFarUptoRow : OpenClaim := { program := "ytoanefccnbnkmaa", sum := "d6e08404b3ba3d740020c40ad00ccec01f2270081bfe34f81d009dc7055c493a", func := "loop.example/cableship/laws.FnFar", spec := "fnFar", unfollowed := true, recurses := true, apart := false, narrowed := true }
def FnFarUptoSaid : Prop := fnFarUptoRow.holds Try.pinned (OpenSpec.upto fnFarSpec)

/-- 'laws.FnOpen', WHERE WHAT IT READS IS OF BULK AT MOST 1048576: true; the input reads as it did. -/
def fnOpenUptoRow : OpenClaim := { program := "ytoanefccnbnkmaa", sum := "d6e08404b3ba3d740020c40ad00ccec01f2270081bfe34f81d009dc7055c493a", func := "loop.example/cableship/laws.FnOpen", spec := "fnOpen", unfollowed := true, recurses := true, apart := false, narrowed := true }
def FnOpenUptoSaid : Prop := fnOpenUptoRow.holds Try.pinned (OpenSpec.upto fnOpenSpec)

/-- 'laws.FnEarthed', WHERE WHAT IT READS IS OF BULK AT MOST 1048576: true; the input reads as it did. -/
def fnEarthedUptoRow : OpenClaim := { program := "ytoanefccnbnkmaa", sum := "d6e08404b3ba3d740020c40ad00ccec01f2270081bfe34f81d009dc7055c493a", func := "loop.example/cableship/laws.FnEarthed", spec := "fnEarthed", unfollowed := true, recurses := true, apart := false, narrowed := true }
def FnEarthedUptoSaid : Prop := fnEarthedUptoRow.holds Try.pinned (OpenSpec.upto fnEarthedSpec)

/-- 'laws.FnBoth', WHERE WHAT IT READS IS OF BULK AT MOST 1048576: true; the input reads as it did. -/
def fnBothUptoRow : OpenClaim := { program := "ytoanefccnbnkmaa", sum := "d6e08404b3ba3d740020c40ad00ccec01f2270081bfe34f81d009dc7055c493a", func := "loop.example/cableship/laws.FnBoth", spec := "fnBoth", unfollowed := true, recurses := true, apart := false, narrowed := true }
def FnBothUptoSaid : Prop := fnBothUptoRow.holds Try.pinned (OpenSpec.upto fnBothSpec)

end Rows
end Go.Proofs.Ytoanefccnbnkmaa
