/-
  No cell of these rows narrows 'for every input' (looked for: loops, veiled, ifaces, maps, wideKeys, modest, calm, conditions, laid).
  DERIVED. THE GIVEN ROWS OF THIS SEAT. 19 by the template 'for every input the law returns true; each argument reads behind the call as it read before'; 0 by the template 'total and deterministic' (their statements: YthbkimojbbkeiaaTotals.lean).
  GIVEN WITH THE SEED: the statements are not yours to turn. If you find one false, say at which input.
  Laid BY PROGRAM, IN A SANDBOX (cutbox-rows.mjs): the forced cells as the released guide's own fill.sh prints them over the translation 1858eadffde7fee7… (all of the seat's roots in one cut). By AI agents, Wed Nov 11 2026. No macro, syntax, notation, axiom, sorry.
-/
import Derived.Test.YthbkimojbbkeiaaChecked
import GoSem.Claim
import GoSem.ClaimJoined
import GoSem.ClaimMapViews
import Derived.JoinedTies
import Derived.KernelRfl
namespace Go.Proofs.Ythbkimojbbkeiaa
/- THE CELL 'sum', in the pinned program and in every row, IS THE sha256 OF THE DUMP (.gsa) THAT YthbkimojbbkeiaaProg.lean LOADS. Nothing in Lean hashes anything: it is a label: what it is worth is what the hold of that sum in a sandbox is worth. -/
noncomputable def Try.pinned : Pinned := { name := "ythbkimojbbkeiaa", sum := "1858eadffde7fee7517f8d59f5427e6261fbcacf8535249a646f57e60be19477", checked := Try.checked }
namespace Rows
def none {H : Type} : Left H := { results := [], args := [] }

/-- 'laws.FnExactSparesValid': WHATEVER THE INPUT: true; the input reads as it did. -/
def fnExactSparesValidSpec : ChangeSpec := { name := "fnExactSparesValid", fn := fun _ => fun
  | [d] => { results := [.lit (.bool true)], args := [d] }
  | _ => none }
def fnExactSparesValidRow : OpenClaim := { program := "ythbkimojbbkeiaa", sum := "1858eadffde7fee7517f8d59f5427e6261fbcacf8535249a646f57e60be19477", func := "loop.example/cableship/laws.FnExactSparesValid", spec := "fnExactSparesValid", unfollowed := true, recurses := true, apart := false }
def FnExactSparesValidSaid : Prop := fnExactSparesValidRow.holds Try.pinned (OpenSpec.ofChange fnExactSparesValidSpec)

/-- ITS FALSE NEIGHBOUR: 'it returns false'. Refute it at one input. -/
def fnExactSparesValidWrong : ChangeSpec := { name := "fnExactSparesValid", fn := fun _ => fun
  | [d] => { results := [.lit (.bool false)], args := [d] }
  | _ => none }
def FnExactSparesValidWrongFalsely : Prop := fnExactSparesValidRow.holds Try.pinned (OpenSpec.ofChange fnExactSparesValidWrong)

/-- 'laws.FnExactSparesMiles': WHATEVER THE INPUT: true; the input reads as it did. -/
def fnExactSparesMilesSpec : ChangeSpec := { name := "fnExactSparesMiles", fn := fun _ => fun
  | [d1, d2] => { results := [.lit (.bool true)], args := [d1, d2] }
  | _ => none }
def fnExactSparesMilesRow : OpenClaim := { program := "ythbkimojbbkeiaa", sum := "1858eadffde7fee7517f8d59f5427e6261fbcacf8535249a646f57e60be19477", func := "loop.example/cableship/laws.FnExactSparesMiles", spec := "fnExactSparesMiles", unfollowed := true, recurses := true, apart := false }
def FnExactSparesMilesSaid : Prop := fnExactSparesMilesRow.holds Try.pinned (OpenSpec.ofChange fnExactSparesMilesSpec)

/-- ITS FALSE NEIGHBOUR: 'it returns false'. Refute it at one input. -/
def fnExactSparesMilesWrong : ChangeSpec := { name := "fnExactSparesMiles", fn := fun _ => fun
  | [d1, d2] => { results := [.lit (.bool false)], args := [d1, d2] }
  | _ => none }
def FnExactSparesMilesWrongFalsely : Prop := fnExactSparesMilesRow.holds Try.pinned (OpenSpec.ofChange fnExactSparesMilesWrong)

/-- 'laws.FnExactSparesFit': WHATEVER THE INPUT: true; the input reads as it did. -/
def fnExactSparesFitSpec : ChangeSpec := { name := "fnExactSparesFit", fn := fun _ => fun
  | [d1, d2] => { results := [.lit (.bool true)], args := [d1, d2] }
  | _ => none }
def fnExactSparesFitRow : OpenClaim := { program := "ythbkimojbbkeiaa", sum := "1858eadffde7fee7517f8d59f5427e6261fbcacf8535249a646f57e60be19477", func := "loop.example/cableship/laws.FnExactSparesFit", spec := "fnExactSparesFit", unfollowed := true, recurses := true, apart := false }
def FnExactSparesFitSaid : Prop := fnExactSparesFitRow.holds Try.pinned (OpenSpec.ofChange fnExactSparesFitSpec)

/-- ITS FALSE NEIGHBOUR: 'it returns false'. Refute it at one input. -/
def fnExactSparesFitWrong : ChangeSpec := { name := "fnExactSparesFit", fn := fun _ => fun
  | [d1, d2] => { results := [.lit (.bool false)], args := [d1, d2] }
  | _ => none }
def FnExactSparesFitWrongFalsely : Prop := fnExactSparesFitRow.holds Try.pinned (OpenSpec.ofChange fnExactSparesFitWrong)

/-- 'laws.FnExactServeValid': WHATEVER THE INPUT: true; the input reads as it did. -/
def fnExactServeValidSpec : ChangeSpec := { name := "fnExactServeValid", fn := fun _ => fun
  | [d1, d2, d3] => { results := [.lit (.bool true)], args := [d1, d2, d3] }
  | _ => none }
def fnExactServeValidRow : OpenClaim := { program := "ythbkimojbbkeiaa", sum := "1858eadffde7fee7517f8d59f5427e6261fbcacf8535249a646f57e60be19477", func := "loop.example/cableship/laws.FnExactServeValid", spec := "fnExactServeValid", unfollowed := true, recurses := true, apart := false }
def FnExactServeValidSaid : Prop := fnExactServeValidRow.holds Try.pinned (OpenSpec.ofChange fnExactServeValidSpec)

/-- ITS FALSE NEIGHBOUR: 'it returns false'. Refute it at one input. -/
def fnExactServeValidWrong : ChangeSpec := { name := "fnExactServeValid", fn := fun _ => fun
  | [d1, d2, d3] => { results := [.lit (.bool false)], args := [d1, d2, d3] }
  | _ => none }
def FnExactServeValidWrongFalsely : Prop := fnExactServeValidRow.holds Try.pinned (OpenSpec.ofChange fnExactServeValidWrong)

/-- 'laws.FnExactServeMany': WHATEVER THE INPUT: true; the input reads as it did. -/
def fnExactServeManySpec : ChangeSpec := { name := "fnExactServeMany", fn := fun _ => fun
  | [d1, d2] => { results := [.lit (.bool true)], args := [d1, d2] }
  | _ => none }
def fnExactServeManyRow : OpenClaim := { program := "ythbkimojbbkeiaa", sum := "1858eadffde7fee7517f8d59f5427e6261fbcacf8535249a646f57e60be19477", func := "loop.example/cableship/laws.FnExactServeMany", spec := "fnExactServeMany", unfollowed := true, recurses := true, apart := false }
def FnExactServeManySaid : Prop := fnExactServeManyRow.holds Try.pinned (OpenSpec.ofChange fnExactServeManySpec)

/-- ITS FALSE NEIGHBOUR: 'it returns false'. Refute it at one input. -/
def fnExactServeManyWrong : ChangeSpec := { name := "fnExactServeMany", fn := fun _ => fun
  | [d1, d2] => { results := [.lit (.bool false)], args := [d1, d2] }
  | _ => none }
def FnExactServeManyWrongFalsely : Prop := fnExactServeManyRow.holds Try.pinned (OpenSpec.ofChange fnExactServeManyWrong)

/-- 'laws.FnExactSparesTake': WHATEVER THE INPUT: true; the input reads as it did. -/
def fnExactSparesTakeSpec : ChangeSpec := { name := "fnExactSparesTake", fn := fun _ => fun
  | [d1, d2, d3] => { results := [.lit (.bool true)], args := [d1, d2, d3] }
  | _ => none }
def fnExactSparesTakeRow : OpenClaim := { program := "ythbkimojbbkeiaa", sum := "1858eadffde7fee7517f8d59f5427e6261fbcacf8535249a646f57e60be19477", func := "loop.example/cableship/laws.FnExactSparesTake", spec := "fnExactSparesTake", unfollowed := true, recurses := true, apart := false }
def FnExactSparesTakeSaid : Prop := fnExactSparesTakeRow.holds Try.pinned (OpenSpec.ofChange fnExactSparesTakeSpec)

/-- ITS FALSE NEIGHBOUR: 'it returns false'. Refute it at one input. -/
def fnExactSparesTakeWrong : ChangeSpec := { name := "fnExactSparesTake", fn := fun _ => fun
  | [d1, d2, d3] => { results := [.lit (.bool false)], args := [d1, d2, d3] }
  | _ => none }
def FnExactSparesTakeWrongFalsely : Prop := fnExactSparesTakeRow.holds Try.pinned (OpenSpec.ofChange fnExactSparesTakeWrong)

/-- 'laws.FnExactServeCan': WHATEVER THE INPUT: true; the input reads as it did. -/
def fnExactServeCanSpec : ChangeSpec := { name := "fnExactServeCan", fn := fun _ => fun
  | [d1, d2] => { results := [.lit (.bool true)], args := [d1, d2] }
  | _ => none }
def fnExactServeCanRow : OpenClaim := { program := "ythbkimojbbkeiaa", sum := "1858eadffde7fee7517f8d59f5427e6261fbcacf8535249a646f57e60be19477", func := "loop.example/cableship/laws.FnExactServeCan", spec := "fnExactServeCan", unfollowed := true, recurses := true, apart := false }
def FnExactServeCanSaid : Prop := fnExactServeCanRow.holds Try.pinned (OpenSpec.ofChange fnExactServeCanSpec)

/-- ITS FALSE NEIGHBOUR: 'it returns false'. Refute it at one input. -/
def fnExactServeCanWrong : ChangeSpec := { name := "fnExactServeCan", fn := fun _ => fun
  | [d1, d2] => { results := [.lit (.bool false)], args := [d1, d2] }
  | _ => none }
def FnExactServeCanWrongFalsely : Prop := fnExactServeCanRow.holds Try.pinned (OpenSpec.ofChange fnExactServeCanWrong)

/-- 'laws.FnServeMany': WHATEVER THE INPUT: true; the input reads as it did. -/
def fnServeManySpec : ChangeSpec := { name := "fnServeMany", fn := fun _ => fun
  | [d] => { results := [.lit (.bool true)], args := [d] }
  | _ => none }
def fnServeManyRow : OpenClaim := { program := "ythbkimojbbkeiaa", sum := "1858eadffde7fee7517f8d59f5427e6261fbcacf8535249a646f57e60be19477", func := "loop.example/cableship/laws.FnServeMany", spec := "fnServeMany", unfollowed := true, recurses := true, apart := false }
def FnServeManySaid : Prop := fnServeManyRow.holds Try.pinned (OpenSpec.ofChange fnServeManySpec)

/-- ITS FALSE NEIGHBOUR: 'it returns false'. Refute it at one input. -/
def fnServeManyWrong : ChangeSpec := { name := "fnServeMany", fn := fun _ => fun
  | [d] => { results := [.lit (.bool false)], args := [d] }
  | _ => none }
def FnServeManyWrongFalsely : Prop := fnServeManyRow.holds Try.pinned (OpenSpec.ofChange fnServeManyWrong)

/-- 'laws.FnTake': WHATEVER THE INPUT: true; the input reads as it did. -/
def fnTakeSpec : ChangeSpec := { name := "fnTake", fn := fun _ => fun
  | [d] => { results := [.lit (.bool true)], args := [d] }
  | _ => none }
def fnTakeRow : OpenClaim := { program := "ythbkimojbbkeiaa", sum := "1858eadffde7fee7517f8d59f5427e6261fbcacf8535249a646f57e60be19477", func := "loop.example/cableship/laws.FnTake", spec := "fnTake", unfollowed := true, recurses := true, apart := false }
def FnTakeSaid : Prop := fnTakeRow.holds Try.pinned (OpenSpec.ofChange fnTakeSpec)

/-- ITS FALSE NEIGHBOUR: 'it returns false'. Refute it at one input. -/
def fnTakeWrong : ChangeSpec := { name := "fnTake", fn := fun _ => fun
  | [d] => { results := [.lit (.bool false)], args := [d] }
  | _ => none }
def FnTakeWrongFalsely : Prop := fnTakeRow.holds Try.pinned (OpenSpec.ofChange fnTakeWrong)

/-- 'laws.FnExactServeWaste': WHATEVER THE INPUT: true; the input reads as it did. -/
def fnExactServeWasteSpec : ChangeSpec := { name := "fnExactServeWaste", fn := fun _ => fun
  | [d1, d2, d3] => { results := [.lit (.bool true)], args := [d1, d2, d3] }
  | _ => none }
def fnExactServeWasteRow : OpenClaim := { program := "ythbkimojbbkeiaa", sum := "1858eadffde7fee7517f8d59f5427e6261fbcacf8535249a646f57e60be19477", func := "loop.example/cableship/laws.FnExactServeWaste", spec := "fnExactServeWaste", unfollowed := true, recurses := true, apart := false }
def FnExactServeWasteSaid : Prop := fnExactServeWasteRow.holds Try.pinned (OpenSpec.ofChange fnExactServeWasteSpec)

/-- ITS FALSE NEIGHBOUR: 'it returns false'. Refute it at one input. -/
def fnExactServeWasteWrong : ChangeSpec := { name := "fnExactServeWaste", fn := fun _ => fun
  | [d1, d2, d3] => { results := [.lit (.bool false)], args := [d1, d2, d3] }
  | _ => none }
def FnExactServeWasteWrongFalsely : Prop := fnExactServeWasteRow.holds Try.pinned (OpenSpec.ofChange fnExactServeWasteWrong)

/-- 'laws.FnServeCan': WHATEVER THE INPUT: true; the input reads as it did. -/
def fnServeCanSpec : ChangeSpec := { name := "fnServeCan", fn := fun _ => fun
  | [d1, d2] => { results := [.lit (.bool true)], args := [d1, d2] }
  | _ => none }
def fnServeCanRow : OpenClaim := { program := "ythbkimojbbkeiaa", sum := "1858eadffde7fee7517f8d59f5427e6261fbcacf8535249a646f57e60be19477", func := "loop.example/cableship/laws.FnServeCan", spec := "fnServeCan", unfollowed := true, recurses := true, apart := false }
def FnServeCanSaid : Prop := fnServeCanRow.holds Try.pinned (OpenSpec.ofChange fnServeCanSpec)

/-- ITS FALSE NEIGHBOUR: 'it returns false'. Refute it at one input. -/
def fnServeCanWrong : ChangeSpec := { name := "fnServeCan", fn := fun _ => fun
  | [d1, d2] => { results := [.lit (.bool false)], args := [d1, d2] }
  | _ => none }
def FnServeCanWrongFalsely : Prop := fnServeCanRow.holds Try.pinned (OpenSpec.ofChange fnServeCanWrong)

/-- 'laws.FnFit': WHATEVER THE INPUT: true; the input reads as it did. -/
def fnFitSpec : ChangeSpec := { name := "fnFit", fn := fun _ => fun
  | [d] => { results := [.lit (.bool true)], args := [d] }
  | _ => none }
def fnFitRow : OpenClaim := { program := "ythbkimojbbkeiaa", sum := "1858eadffde7fee7517f8d59f5427e6261fbcacf8535249a646f57e60be19477", func := "loop.example/cableship/laws.FnFit", spec := "fnFit", unfollowed := true, recurses := true, apart := false }
def FnFitSaid : Prop := fnFitRow.holds Try.pinned (OpenSpec.ofChange fnFitSpec)

/-- ITS FALSE NEIGHBOUR: 'it returns false'. Refute it at one input. -/
def fnFitWrong : ChangeSpec := { name := "fnFit", fn := fun _ => fun
  | [d] => { results := [.lit (.bool false)], args := [d] }
  | _ => none }
def FnFitWrongFalsely : Prop := fnFitRow.holds Try.pinned (OpenSpec.ofChange fnFitWrong)

/-- 'laws.FnServe': WHATEVER THE INPUT: true; the input reads as it did. -/
def fnServeSpec : ChangeSpec := { name := "fnServe", fn := fun _ => fun
  | [d1, d2] => { results := [.lit (.bool true)], args := [d1, d2] }
  | _ => none }
def fnServeRow : OpenClaim := { program := "ythbkimojbbkeiaa", sum := "1858eadffde7fee7517f8d59f5427e6261fbcacf8535249a646f57e60be19477", func := "loop.example/cableship/laws.FnServe", spec := "fnServe", unfollowed := true, recurses := true, apart := false }
def FnServeSaid : Prop := fnServeRow.holds Try.pinned (OpenSpec.ofChange fnServeSpec)

/-- ITS FALSE NEIGHBOUR: 'it returns false'. Refute it at one input. -/
def fnServeWrong : ChangeSpec := { name := "fnServe", fn := fun _ => fun
  | [d1, d2] => { results := [.lit (.bool false)], args := [d1, d2] }
  | _ => none }
def FnServeWrongFalsely : Prop := fnServeRow.holds Try.pinned (OpenSpec.ofChange fnServeWrong)

/-- 'laws.FnExactServeBest': WHATEVER THE INPUT: true; the input reads as it did. -/
def fnExactServeBestSpec : ChangeSpec := { name := "fnExactServeBest", fn := fun _ => fun
  | [d1, d2] => { results := [.lit (.bool true)], args := [d1, d2] }
  | _ => none }
def fnExactServeBestRow : OpenClaim := { program := "ythbkimojbbkeiaa", sum := "1858eadffde7fee7517f8d59f5427e6261fbcacf8535249a646f57e60be19477", func := "loop.example/cableship/laws.FnExactServeBest", spec := "fnExactServeBest", unfollowed := true, recurses := true, apart := false }
def FnExactServeBestSaid : Prop := fnExactServeBestRow.holds Try.pinned (OpenSpec.ofChange fnExactServeBestSpec)

/-- ITS FALSE NEIGHBOUR: 'it returns false'. Refute it at one input. -/
def fnExactServeBestWrong : ChangeSpec := { name := "fnExactServeBest", fn := fun _ => fun
  | [d1, d2] => { results := [.lit (.bool false)], args := [d1, d2] }
  | _ => none }
def FnExactServeBestWrongFalsely : Prop := fnExactServeBestRow.holds Try.pinned (OpenSpec.ofChange fnExactServeBestWrong)

/-- 'laws.FnServeBest': WHATEVER THE INPUT: true; the input reads as it did. -/
def fnServeBestSpec : ChangeSpec := { name := "fnServeBest", fn := fun _ => fun
  | [d] => { results := [.lit (.bool true)], args := [d] }
  | _ => none }
def fnServeBestRow : OpenClaim := { program := "ythbkimojbbkeiaa", sum := "1858eadffde7fee7517f8d59f5427e6261fbcacf8535249a646f57e60be19477", func := "loop.example/cableship/laws.FnServeBest", spec := "fnServeBest", unfollowed := true, recurses := true, apart := false }
def FnServeBestSaid : Prop := fnServeBestRow.holds Try.pinned (OpenSpec.ofChange fnServeBestSpec)

/-- ITS FALSE NEIGHBOUR: 'it returns false'. Refute it at one input. -/
def fnServeBestWrong : ChangeSpec := { name := "fnServeBest", fn := fun _ => fun
  | [d] => { results := [.lit (.bool false)], args := [d] }
  | _ => none }
def FnServeBestWrongFalsely : Prop := fnServeBestRow.holds Try.pinned (OpenSpec.ofChange fnServeBestWrong)

/-- 'laws.FnServeWaste': WHATEVER THE INPUT: true; the input reads as it did. -/
def fnServeWasteSpec : ChangeSpec := { name := "fnServeWaste", fn := fun _ => fun
  | [d] => { results := [.lit (.bool true)], args := [d] }
  | _ => none }
def fnServeWasteRow : OpenClaim := { program := "ythbkimojbbkeiaa", sum := "1858eadffde7fee7517f8d59f5427e6261fbcacf8535249a646f57e60be19477", func := "loop.example/cableship/laws.FnServeWaste", spec := "fnServeWaste", unfollowed := true, recurses := true, apart := false }
def FnServeWasteSaid : Prop := fnServeWasteRow.holds Try.pinned (OpenSpec.ofChange fnServeWasteSpec)

/-- ITS FALSE NEIGHBOUR: 'it returns false'. Refute it at one input. -/
def fnServeWasteWrong : ChangeSpec := { name := "fnServeWaste", fn := fun _ => fun
  | [d] => { results := [.lit (.bool false)], args := [d] }
  | _ => none }
def FnServeWasteWrongFalsely : Prop := fnServeWasteRow.holds Try.pinned (OpenSpec.ofChange fnServeWasteWrong)

/-- 'laws.FnSparesMiles': WHATEVER THE INPUT: true; the input reads as it did. -/
def fnSparesMilesSpec : ChangeSpec := { name := "fnSparesMiles", fn := fun _ => fun
  | [d] => { results := [.lit (.bool true)], args := [d] }
  | _ => none }
def fnSparesMilesRow : OpenClaim := { program := "ythbkimojbbkeiaa", sum := "1858eadffde7fee7517f8d59f5427e6261fbcacf8535249a646f57e60be19477", func := "loop.example/cableship/laws.FnSparesMiles", spec := "fnSparesMiles", unfollowed := true, recurses := true, apart := false }
def FnSparesMilesSaid : Prop := fnSparesMilesRow.holds Try.pinned (OpenSpec.ofChange fnSparesMilesSpec)

/-- ITS FALSE NEIGHBOUR: 'it returns false'. Refute it at one input. -/
def fnSparesMilesWrong : ChangeSpec := { name := "fnSparesMiles", fn := fun _ => fun
  | [d] => { results := [.lit (.bool false)], args := [d] }
  | _ => none }
def FnSparesMilesWrongFalsely : Prop := fnSparesMilesRow.holds Try.pinned (OpenSpec.ofChange fnSparesMilesWrong)

/-- 'laws.FnExactSparesSort': WHATEVER THE INPUT: true; the input reads as it did. -/
def fnExactSparesSortSpec : ChangeSpec := { name := "fnExactSparesSort", fn := fun _ => fun
  | [d] => { results := [.lit (.bool true)], args := [d] }
  | _ => none }
def fnExactSparesSortRow : OpenClaim := { program := "ythbkimojbbkeiaa", sum := "1858eadffde7fee7517f8d59f5427e6261fbcacf8535249a646f57e60be19477", func := "loop.example/cableship/laws.FnExactSparesSort", spec := "fnExactSparesSort", unfollowed := true, recurses := true, apart := false }
def FnExactSparesSortSaid : Prop := fnExactSparesSortRow.holds Try.pinned (OpenSpec.ofChange fnExactSparesSortSpec)

/-- ITS FALSE NEIGHBOUR: 'it returns false'. Refute it at one input. -/
def fnExactSparesSortWrong : ChangeSpec := { name := "fnExactSparesSort", fn := fun _ => fun
  | [d] => { results := [.lit (.bool false)], args := [d] }
  | _ => none }
def FnExactSparesSortWrongFalsely : Prop := fnExactSparesSortRow.holds Try.pinned (OpenSpec.ofChange fnExactSparesSortWrong)

/-- 'laws.FnSparesSort': WHATEVER THE INPUT: true; the input reads as it did. -/
def fnSparesSortSpec : ChangeSpec := { name := "fnSparesSort", fn := fun _ => fun
  | [d1, d2] => { results := [.lit (.bool true)], args := [d1, d2] }
  | _ => none }
def fnSparesSortRow : OpenClaim := { program := "ythbkimojbbkeiaa", sum := "1858eadffde7fee7517f8d59f5427e6261fbcacf8535249a646f57e60be19477", func := "loop.example/cableship/laws.FnSparesSort", spec := "fnSparesSort", unfollowed := true, recurses := true, apart := false }
def FnSparesSortSaid : Prop := fnSparesSortRow.holds Try.pinned (OpenSpec.ofChange fnSparesSortSpec)

/-- ITS FALSE NEIGHBOUR: 'it returns false'. Refute it at one input. -/
def fnSparesSortWrong : ChangeSpec := { name := "fnSparesSort", fn := fun _ => fun
  | [d1, d2] => { results := [.lit (.bool false)], args := [d1, d2] }
  | _ => none }
def FnSparesSortWrongFalsely : Prop := fnSparesSortRow.holds Try.pinned (OpenSpec.ofChange fnSparesSortWrong)

/- THE SECOND FORM. 'bulk': how many values and letters a reading holds, each counted each time it is reached (what is shared counts as often as it is met; a slice's spare places count too). A statement '..UptoSaid' is the law's where the arguments, and the package variables that the reading takes, are together of bulk at most 1048576: NARROWER than '..Said'. Prove '..Said' where nothing that the law and all that it calls make is longer than what came in: it says more and counts as full. Else prove '..UptoSaid'. A law counts once. -/
mutual
def uptoBulk {H : Type} : DataW H → Nat
  | .lit (.string bytes) => bytes.length + 1
  | .lit _ => 1
  | .nil => 1
  | .ptr d => uptoBulk d + 1
  | .slice elems spare => uptoBulkAll elems + uptoBulkAll spare + 1
  | .agg parts => uptoBulkAll parts + 1
  | .iface _ d => uptoBulk d + 1
  | .map entries => uptoBulkEntries entries + 1
  | .held _ => 1
def uptoBulkAll {H : Type} : List (DataW H) → Nat
  | [] => 0
  | d :: r => uptoBulk d + uptoBulkAll r
def uptoBulkEntries {H : Type} : List (Lit × DataW H) → Nat
  | [] => 0
  | x :: r => uptoBulkEntry x + uptoBulkEntries r
def uptoBulkEntry {H : Type} : Lit × DataW H → Nat
  | (.string bytes, d) => bytes.length + uptoBulk d + 1
  | (_, d) => uptoBulk d + 1
 end
def uptoSmall : (H : Type) → List (DataW H) → Bool := fun _ ds => decide (uptoBulkAll ds ≤ 1048576)
def OpenSpec.upto (s : _root_.Go.ChangeSpec) : _root_.Go.OpenSpec := { _root_.Go.OpenSpec.ofChange s with cond := some uptoSmall }

/-- 'laws.FnExactSparesValid', WHERE WHAT IT READS IS OF BULK AT MOST 1048576: true; the input reads as it did. -/
def fnExactSparesValidUptoRow : OpenClaim := { program := "ythbkimojbbkeiaa", sum := "1858eadffde7fee7517f8d59f5427e6261fbcacf8535249a646f57e60be19477", func := "loop.example/cableship/laws.FnExactSparesValid", spec := "fnExactSparesValid", unfollowed := true, recurses := true, apart := false, narrowed := true }
def FnExactSparesValidUptoSaid : Prop := fnExactSparesValidUptoRow.holds Try.pinned (OpenSpec.upto fnExactSparesValidSpec)

/-- 'laws.FnExactSparesMiles', WHERE WHAT IT READS IS OF BULK AT MOST 1048576: true; the input reads as it did. -/
def fnExactSparesMilesUptoRow : OpenClaim := { program := "ythbkimojbbkeiaa", sum := "1858eadffde7fee7517f8d59f5427e6261fbcacf8535249a646f57e60be19477", func := "loop.example/cableship/laws.FnExactSparesMiles", spec := "fnExactSparesMiles", unfollowed := true, recurses := true, apart := false, narrowed := true }
def FnExactSparesMilesUptoSaid : Prop := fnExactSparesMilesUptoRow.holds Try.pinned (OpenSpec.upto fnExactSparesMilesSpec)

/-- 'laws.FnExactSparesFit', WHERE WHAT IT READS IS OF BULK AT MOST 1048576: true; the input reads as it did. -/
def fnExactSparesFitUptoRow : OpenClaim := { program := "ythbkimojbbkeiaa", sum := "1858eadffde7fee7517f8d59f5427e6261fbcacf8535249a646f57e60be19477", func := "loop.example/cableship/laws.FnExactSparesFit", spec := "fnExactSparesFit", unfollowed := true, recurses := true, apart := false, narrowed := true }
def FnExactSparesFitUptoSaid : Prop := fnExactSparesFitUptoRow.holds Try.pinned (OpenSpec.upto fnExactSparesFitSpec)

/-- 'laws.FnExactServeValid', WHERE WHAT IT READS IS OF BULK AT MOST 1048576: true; the input reads as it did. -/
def fnExactServeValidUptoRow : OpenClaim := { program := "ythbkimojbbkeiaa", sum := "1858eadffde7fee7517f8d59f5427e6261fbcacf8535249a646f57e60be19477", func := "loop.example/cableship/laws.FnExactServeValid", spec := "fnExactServeValid", unfollowed := true, recurses := true, apart := false, narrowed := true }
def FnExactServeValidUptoSaid : Prop := fnExactServeValidUptoRow.holds Try.pinned (OpenSpec.upto fnExactServeValidSpec)

/-- 'laws.FnExactServeMany', WHERE WHAT IT READS IS OF BULK AT MOST 1048576: true; the input reads as it did. -/
def fnExactServeManyUptoRow : OpenClaim := { program := "ythbkimojbbkeiaa", sum := "1858eadffde7fee7517f8d59f5427e6261fbcacf8535249a646f57e60be19477", func := "loop.example/cableship/laws.FnExactServeMany", spec := "fnExactServeMany", unfollowed := true, recurses := true, apart := false, narrowed := true }
def FnExactServeManyUptoSaid : Prop := fnExactServeManyUptoRow.holds Try.pinned (OpenSpec.upto fnExactServeManySpec)

/-- 'laws.FnExactSparesTake', WHERE WHAT IT READS IS OF BULK AT MOST 1048576: true; the input reads as it did. -/
def fnExactSparesTakeUptoRow : OpenClaim := { program := "ythbkimojbbkeiaa", sum := "1858eadffde7fee7517f8d59f5427e6261fbcacf8535249a646f57e60be19477", func := "loop.example/cableship/laws.FnExactSparesTake", spec := "fnExactSparesTake", unfollowed := true, recurses := true, apart := false, narrowed := true }
def FnExactSparesTakeUptoSaid : Prop := fnExactSparesTakeUptoRow.holds Try.pinned (OpenSpec.upto fnExactSparesTakeSpec)

/-- 'laws.FnExactServeCan', WHERE WHAT IT READS IS OF BULK AT MOST 1048576: true; the input reads as it did. -/
def fnExactServeCanUptoRow : OpenClaim := { program := "ythbkimojbbkeiaa", sum := "1858eadffde7fee7517f8d59f5427e6261fbcacf8535249a646f57e60be19477", func := "loop.example/cableship/laws.FnExactServeCan", spec := "fnExactServeCan", unfollowed := true, recurses := true, apart := false, narrowed := true }
def FnExactServeCanUptoSaid : Prop := fnExactServeCanUptoRow.holds Try.pinned (OpenSpec.upto fnExactServeCanSpec)

/-- 'laws.FnServeMany', WHERE WHAT IT READS IS OF BULK AT MOST 1048576: true; the input reads as it did. -/
def fnServeManyUptoRow : OpenClaim := { program := "ythbkimojbbkeiaa", sum := "1858eadffde7fee7517f8d59f5427e6261fbcacf8535249a646f57e60be19477", func := "loop.example/cableship/laws.FnServeMany", spec := "fnServeMany", unfollowed := true, recurses := true, apart := false, narrowed := true }
def FnServeManyUptoSaid : Prop := fnServeManyUptoRow.holds Try.pinned (OpenSpec.upto fnServeManySpec)

/-- 'laws.FnTake', WHERE WHAT IT READS IS OF BULK AT MOST 1048576: true; the input reads as it did. -/
def fnTakeUptoRow : OpenClaim := { program := "ythbkimojbbkeiaa", sum := "1858eadffde7fee7517f8d59f5427e6261fbcacf8535249a646f57e60be19477", func := "loop.example/cableship/laws.FnTake", spec := "fnTake", unfollowed := true, recurses := true, apart := false, narrowed := true }
def FnTakeUptoSaid : Prop := fnTakeUptoRow.holds Try.pinned (OpenSpec.upto fnTakeSpec)

/-- 'laws.FnExactServeWaste', WHERE WHAT IT READS IS OF BULK AT MOST 1048576: true; the input reads as it did. -/
def fnExactServeWasteUptoRow : OpenClaim := { program := "ythbkimojbbkeiaa", sum := "1858eadffde7fee7517f8d59f5427e6261fbcacf8535249a646f57e60be19477", func := "loop.example/cableship/laws.FnExactServeWaste", spec := "fnExactServeWaste", unfollowed := true, recurses := true, apart := false, narrowed := true }
def FnExactServeWasteUptoSaid : Prop := fnExactServeWasteUptoRow.holds Try.pinned (OpenSpec.upto fnExactServeWasteSpec)

/-- 'laws.FnServeCan', WHERE WHAT IT READS IS OF BULK AT MOST 1048576: true; the input reads as it did. -/
def fnServeCanUptoRow : OpenClaim := { program := "ythbkimojbbkeiaa", sum := "1858eadffde7fee7517f8d59f5427e6261fbcacf8535249a646f57e60be19477", func := "loop.example/cableship/laws.FnServeCan", spec := "fnServeCan", unfollowed := true, recurses := true, apart := false, narrowed := true }
def FnServeCanUptoSaid : Prop := fnServeCanUptoRow.holds Try.pinned (OpenSpec.upto fnServeCanSpec)

/-- 'laws.FnFit', WHERE WHAT IT READS IS OF BULK AT MOST 1048576: true; the input reads as it did. -/
def fnFitUptoRow : OpenClaim := { program := "ythbkimojbbkeiaa", sum := "1858eadffde7fee7517f8d59f5427e6261fbcacf8535249a646f57e60be19477", func := "loop.example/cableship/laws.FnFit", spec := "fnFit", unfollowed := true, recurses := true, apart := false, narrowed := true }
def FnFitUptoSaid : Prop := fnFitUptoRow.holds Try.pinned (OpenSpec.upto fnFitSpec)

/-- 'laws.FnServe', WHERE WHAT IT READS IS OF BULK AT MOST 1048576: true; the input reads as it did. -/
def fnServeUptoRow : OpenClaim := { program := "ythbkimojbbkeiaa", sum := "1858eadffde7fee7517f8d59f5427e6261fbcacf8535249a646f57e60be19477", func := "loop.example/cableship/laws.FnServe", spec := "fnServe", unfollowed := true, recurses := true, apart := false, narrowed := true }
def FnServeUptoSaid : Prop := fnServeUptoRow.holds Try.pinned (OpenSpec.upto fnServeSpec)

/-- 'laws.FnExactServeBest', WHERE WHAT IT READS IS OF BULK AT MOST 1048576: true; the input reads as it did. -/
def fnExactServeBestUptoRow : OpenClaim := { program := "ythbkimojbbkeiaa", sum := "1858eadffde7fee7517f8d59f5427e6261fbcacf8535249a646f57e60be19477", func := "loop.example/cableship/laws.FnExactServeBest", spec := "fnExactServeBest", unfollowed := true, recurses := true, apart := false, narrowed := true }
def FnExactServeBestUptoSaid : Prop := fnExactServeBestUptoRow.holds Try.pinned (OpenSpec.upto fnExactServeBestSpec)

/-- 'laws.FnServeBest', WHERE WHAT IT READS IS OF BULK AT MOST 1048576: true; the input reads as it did. -/
def fnServeBestUptoRow : OpenClaim := { program := "ythbkimojbbkeiaa", sum := "1858eadffde7fee7517f8d59f5427e6261fbcacf8535249a646f57e60be19477", func := "loop.example/cableship/laws.FnServeBest", spec := "fnServeBest", unfollowed := true, recurses := true, apart := false, narrowed := true }
def FnServeBestUptoSaid : Prop := fnServeBestUptoRow.holds Try.pinned (OpenSpec.upto fnServeBestSpec)

/-- 'laws.FnServeWaste', WHERE WHAT IT READS IS OF BULK AT MOST 1048576: true; the input reads as it did. -/
def fnServeWasteUptoRow : OpenClaim := { program := "ythbkimojbbkeiaa", sum := "1858eadffde7fee7517f8d59f5427e6261fbcacf8535249a646f57e60be19477", func := "loop.example/cableship/laws.FnServeWaste", spec := "fnServeWaste", unfollowed := true, recurses := true, apart := false, narrowed := true }
def FnServeWasteUptoSaid : Prop := fnServeWasteUptoRow.holds Try.pinned (OpenSpec.upto fnServeWasteSpec)

/-- 'laws.FnSparesMiles', WHERE WHAT IT READS IS OF BULK AT MOST 1048576: true; the input reads as it did. -/
def fnSparesMilesUptoRow : OpenClaim := { program := "ythbkimojbbkeiaa", sum := "1858eadffde7fee7517f8d59f5427e6261fbcacf8535249a646f57e60be19477", func := "loop.example/cableship/laws.FnSparesMiles", spec := "fnSparesMiles", unfollowed := true, recurses := true, apart := false, narrowed := true }
def FnSparesMilesUptoSaid : Prop := fnSparesMilesUptoRow.holds Try.pinned (OpenSpec.upto fnSparesMilesSpec)

/-- 'laws.FnExactSparesSort', WHERE WHAT IT READS IS OF BULK AT MOST 1048576: true; the input reads as it did. -/
def fnExactSparesSortUptoRow : OpenClaim := { program := "ythbkimojbbkeiaa", sum := "1858eadffde7fee7517f8d59f5427e6261fbcacf8535249a646f57e60be19477", func := "loop.example/cableship/laws.FnExactSparesSort", spec := "fnExactSparesSort", unfollowed := true, recurses := true, apart := false, narrowed := true }
def FnExactSparesSortUptoSaid : Prop := fnExactSparesSortUptoRow.holds Try.pinned (OpenSpec.upto fnExactSparesSortSpec)

/-- 'laws.FnSparesSort', WHERE WHAT IT READS IS OF BULK AT MOST 1048576: true; the input reads as it did. -/
def fnSparesSortUptoRow : OpenClaim := { program := "ythbkimojbbkeiaa", sum := "1858eadffde7fee7517f8d59f5427e6261fbcacf8535249a646f57e60be19477", func := "loop.example/cableship/laws.FnSparesSort", spec := "fnSparesSort", unfollowed := true, recurses := true, apart := false, narrowed := true }
def FnSparesSortUptoSaid : Prop := fnSparesSortUptoRow.holds Try.pinned (OpenSpec.upto fnSparesSortSpec)

end Rows
end Go.Proofs.Ythbkimojbbkeiaa
