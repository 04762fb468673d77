/-
  No cell of these rows narrows 'for every input' (looked for: loops, veiled, ifaces, maps, wideKeys, modest, calm, conditions, laid).
  DERIVED. THE GIVEN ROWS OF THIS SEAT. 16 by the template 'for every input the law returns true; each argument reads behind the call as it read before'; 0 by the template 'total and deterministic' (their statements: YtldjnfcdmhcjdaaTotals.lean).
  GIVEN WITH THE SEED: the statements are not yours to turn. If you find one false, say at which input.
  Laid BY PROGRAM, IN A SANDBOX (cutbox-rows.mjs): the forced cells as the released guide's own fill.sh prints them over the translation 5377c2ce5713de4e… (all of the seat's roots in one cut). By AI agents, Wed Nov 11 2026. No macro, syntax, notation, axiom, sorry.
-/
import Derived.Test.YtldjnfcdmhcjdaaChecked
import GoSem.Claim
import GoSem.ClaimJoined
import GoSem.ClaimMapViews
import Derived.JoinedTies
import Derived.KernelRfl
namespace Go.Proofs.Ytldjnfcdmhcjdaa
/- THE CELL 'sum', in the pinned program and in every row, IS THE sha256 OF THE DUMP (.gsa) THAT YtldjnfcdmhcjdaaProg.lean LOADS. Nothing in Lean hashes anything: it is a label: what it is worth is what the hold of that sum in a sandbox is worth. -/
noncomputable def Try.pinned : Pinned := { name := "ytldjnfcdmhcjdaa", sum := "5377c2ce5713de4e2641d62032d764320d334b20eb9c84920be6ad4148ef18da", checked := Try.checked }
namespace Rows
def none {H : Type} : Left H := { results := [], args := [] }

/-- 'laws.FnExactOrdersValid': WHATEVER THE INPUT: true; the input reads as it did. -/
def fnExactOrdersValidSpec : ChangeSpec := { name := "fnExactOrdersValid", fn := fun _ => fun
  | [d] => { results := [.lit (.bool true)], args := [d] }
  | _ => none }
def fnExactOrdersValidRow : OpenClaim := { program := "ytldjnfcdmhcjdaa", sum := "5377c2ce5713de4e2641d62032d764320d334b20eb9c84920be6ad4148ef18da", func := "loop.example/cableship/laws.FnExactOrdersValid", spec := "fnExactOrdersValid", apart := false }
def FnExactOrdersValidSaid : Prop := fnExactOrdersValidRow.holds Try.pinned (OpenSpec.ofChange fnExactOrdersValidSpec)

/-- ITS FALSE NEIGHBOUR: 'it returns false'. Refute it at one input. -/
def fnExactOrdersValidWrong : ChangeSpec := { name := "fnExactOrdersValid", fn := fun _ => fun
  | [d] => { results := [.lit (.bool false)], args := [d] }
  | _ => none }
def FnExactOrdersValidWrongFalsely : Prop := fnExactOrdersValidRow.holds Try.pinned (OpenSpec.ofChange fnExactOrdersValidWrong)

/-- 'laws.FnExactOrdersAgree': WHATEVER THE INPUT: true; the input reads as it did. -/
def fnExactOrdersAgreeSpec : ChangeSpec := { name := "fnExactOrdersAgree", fn := fun _ => fun
  | [d1, d2, d3] => { results := [.lit (.bool true)], args := [d1, d2, d3] }
  | _ => none }
def fnExactOrdersAgreeRow : OpenClaim := { program := "ytldjnfcdmhcjdaa", sum := "5377c2ce5713de4e2641d62032d764320d334b20eb9c84920be6ad4148ef18da", func := "loop.example/cableship/laws.FnExactOrdersAgree", spec := "fnExactOrdersAgree", apart := false }
def FnExactOrdersAgreeSaid : Prop := fnExactOrdersAgreeRow.holds Try.pinned (OpenSpec.ofChange fnExactOrdersAgreeSpec)

/-- ITS FALSE NEIGHBOUR: 'it returns false'. Refute it at one input. -/
def fnExactOrdersAgreeWrong : ChangeSpec := { name := "fnExactOrdersAgree", fn := fun _ => fun
  | [d1, d2, d3] => { results := [.lit (.bool false)], args := [d1, d2, d3] }
  | _ => none }
def FnExactOrdersAgreeWrongFalsely : Prop := fnExactOrdersAgreeRow.holds Try.pinned (OpenSpec.ofChange fnExactOrdersAgreeWrong)

/-- 'laws.FnExactOrdersPairs': WHATEVER THE INPUT: true; the input reads as it did. -/
def fnExactOrdersPairsSpec : ChangeSpec := { name := "fnExactOrdersPairs", fn := fun _ => fun
  | [d] => { results := [.lit (.bool true)], args := [d] }
  | _ => none }
def fnExactOrdersPairsRow : OpenClaim := { program := "ytldjnfcdmhcjdaa", sum := "5377c2ce5713de4e2641d62032d764320d334b20eb9c84920be6ad4148ef18da", func := "loop.example/cableship/laws.FnExactOrdersPairs", spec := "fnExactOrdersPairs", apart := false }
def FnExactOrdersPairsSaid : Prop := fnExactOrdersPairsRow.holds Try.pinned (OpenSpec.ofChange fnExactOrdersPairsSpec)

/-- ITS FALSE NEIGHBOUR: 'it returns false'. Refute it at one input. -/
def fnExactOrdersPairsWrong : ChangeSpec := { name := "fnExactOrdersPairs", fn := fun _ => fun
  | [d] => { results := [.lit (.bool false)], args := [d] }
  | _ => none }
def FnExactOrdersPairsWrongFalsely : Prop := fnExactOrdersPairsRow.holds Try.pinned (OpenSpec.ofChange fnExactOrdersPairsWrong)

/-- 'laws.FnExactOrdersDrop': WHATEVER THE INPUT: true; the input reads as it did. -/
def fnExactOrdersDropSpec : ChangeSpec := { name := "fnExactOrdersDrop", fn := fun _ => fun
  | [d1, d2] => { results := [.lit (.bool true)], args := [d1, d2] }
  | _ => none }
def fnExactOrdersDropRow : OpenClaim := { program := "ytldjnfcdmhcjdaa", sum := "5377c2ce5713de4e2641d62032d764320d334b20eb9c84920be6ad4148ef18da", func := "loop.example/cableship/laws.FnExactOrdersDrop", spec := "fnExactOrdersDrop", apart := false }
def FnExactOrdersDropSaid : Prop := fnExactOrdersDropRow.holds Try.pinned (OpenSpec.ofChange fnExactOrdersDropSpec)

/-- ITS FALSE NEIGHBOUR: 'it returns false'. Refute it at one input. -/
def fnExactOrdersDropWrong : ChangeSpec := { name := "fnExactOrdersDrop", fn := fun _ => fun
  | [d1, d2] => { results := [.lit (.bool false)], args := [d1, d2] }
  | _ => none }
def FnExactOrdersDropWrongFalsely : Prop := fnExactOrdersDropRow.holds Try.pinned (OpenSpec.ofChange fnExactOrdersDropWrong)

/-- 'laws.FnExactOrdersBack': WHATEVER THE INPUT: true; the input reads as it did. -/
def fnExactOrdersBackSpec : ChangeSpec := { name := "fnExactOrdersBack", fn := fun _ => fun
  | [d] => { results := [.lit (.bool true)], args := [d] }
  | _ => none }
def fnExactOrdersBackRow : OpenClaim := { program := "ytldjnfcdmhcjdaa", sum := "5377c2ce5713de4e2641d62032d764320d334b20eb9c84920be6ad4148ef18da", func := "loop.example/cableship/laws.FnExactOrdersBack", spec := "fnExactOrdersBack", unfollowed := true, recurses := true, apart := false }
def FnExactOrdersBackSaid : Prop := fnExactOrdersBackRow.holds Try.pinned (OpenSpec.ofChange fnExactOrdersBackSpec)

/-- ITS FALSE NEIGHBOUR: 'it returns false'. Refute it at one input. -/
def fnExactOrdersBackWrong : ChangeSpec := { name := "fnExactOrdersBack", fn := fun _ => fun
  | [d] => { results := [.lit (.bool false)], args := [d] }
  | _ => none }
def FnExactOrdersBackWrongFalsely : Prop := fnExactOrdersBackRow.holds Try.pinned (OpenSpec.ofChange fnExactOrdersBackWrong)

/-- 'laws.FnExactStowageValid': WHATEVER THE INPUT: true; the input reads as it did. -/
def fnExactStowageValidSpec : ChangeSpec := { name := "fnExactStowageValid", fn := fun _ => fun
  | [d1, d2] => { results := [.lit (.bool true)], args := [d1, d2] }
  | _ => none }
def fnExactStowageValidRow : OpenClaim := { program := "ytldjnfcdmhcjdaa", sum := "5377c2ce5713de4e2641d62032d764320d334b20eb9c84920be6ad4148ef18da", func := "loop.example/cableship/laws.FnExactStowageValid", spec := "fnExactStowageValid", unfollowed := true, recurses := true, apart := false }
def FnExactStowageValidSaid : Prop := fnExactStowageValidRow.holds Try.pinned (OpenSpec.ofChange fnExactStowageValidSpec)

/-- ITS FALSE NEIGHBOUR: 'it returns false'. Refute it at one input. -/
def fnExactStowageValidWrong : ChangeSpec := { name := "fnExactStowageValid", fn := fun _ => fun
  | [d1, d2] => { results := [.lit (.bool false)], args := [d1, d2] }
  | _ => none }
def FnExactStowageValidWrongFalsely : Prop := fnExactStowageValidRow.holds Try.pinned (OpenSpec.ofChange fnExactStowageValidWrong)

/-- 'laws.FnExactOrdersLongest': WHATEVER THE INPUT: true; the input reads as it did. -/
def fnExactOrdersLongestSpec : ChangeSpec := { name := "fnExactOrdersLongest", fn := fun _ => fun
  | [d] => { results := [.lit (.bool true)], args := [d] }
  | _ => none }
def fnExactOrdersLongestRow : OpenClaim := { program := "ytldjnfcdmhcjdaa", sum := "5377c2ce5713de4e2641d62032d764320d334b20eb9c84920be6ad4148ef18da", func := "loop.example/cableship/laws.FnExactOrdersLongest", spec := "fnExactOrdersLongest", apart := false }
def FnExactOrdersLongestSaid : Prop := fnExactOrdersLongestRow.holds Try.pinned (OpenSpec.ofChange fnExactOrdersLongestSpec)

/-- ITS FALSE NEIGHBOUR: 'it returns false'. Refute it at one input. -/
def fnExactOrdersLongestWrong : ChangeSpec := { name := "fnExactOrdersLongest", fn := fun _ => fun
  | [d] => { results := [.lit (.bool false)], args := [d] }
  | _ => none }
def FnExactOrdersLongestWrongFalsely : Prop := fnExactOrdersLongestRow.holds Try.pinned (OpenSpec.ofChange fnExactOrdersLongestWrong)

/-- 'laws.FnAgree': WHATEVER THE INPUT: true; the input reads as it did. -/
def fnAgreeSpec : ChangeSpec := { name := "fnAgree", fn := fun _ => fun
  | [d] => { results := [.lit (.bool true)], args := [d] }
  | _ => none }
def fnAgreeRow : OpenClaim := { program := "ytldjnfcdmhcjdaa", sum := "5377c2ce5713de4e2641d62032d764320d334b20eb9c84920be6ad4148ef18da", func := "loop.example/cableship/laws.FnAgree", spec := "fnAgree", unfollowed := true, recurses := true, apart := false }
def FnAgreeSaid : Prop := fnAgreeRow.holds Try.pinned (OpenSpec.ofChange fnAgreeSpec)

/-- ITS FALSE NEIGHBOUR: 'it returns false'. Refute it at one input. -/
def fnAgreeWrong : ChangeSpec := { name := "fnAgree", fn := fun _ => fun
  | [d] => { results := [.lit (.bool false)], args := [d] }
  | _ => none }
def FnAgreeWrongFalsely : Prop := fnAgreeRow.holds Try.pinned (OpenSpec.ofChange fnAgreeWrong)

/-- 'laws.FnDrop': WHATEVER THE INPUT: true; the input reads as it did. -/
def fnDropSpec : ChangeSpec := { name := "fnDrop", fn := fun _ => fun
  | [d] => { results := [.lit (.bool true)], args := [d] }
  | _ => none }
def fnDropRow : OpenClaim := { program := "ytldjnfcdmhcjdaa", sum := "5377c2ce5713de4e2641d62032d764320d334b20eb9c84920be6ad4148ef18da", func := "loop.example/cableship/laws.FnDrop", spec := "fnDrop", apart := false }
def FnDropSaid : Prop := fnDropRow.holds Try.pinned (OpenSpec.ofChange fnDropSpec)

/-- ITS FALSE NEIGHBOUR: 'it returns false'. Refute it at one input. -/
def fnDropWrong : ChangeSpec := { name := "fnDrop", fn := fun _ => fun
  | [d] => { results := [.lit (.bool false)], args := [d] }
  | _ => none }
def FnDropWrongFalsely : Prop := fnDropRow.holds Try.pinned (OpenSpec.ofChange fnDropWrong)

/-- 'laws.FnExactStowageTanks': WHATEVER THE INPUT: true; the input reads as it did. -/
def fnExactStowageTanksSpec : ChangeSpec := { name := "fnExactStowageTanks", fn := fun _ => fun
  | [d1, d2] => { results := [.lit (.bool true)], args := [d1, d2] }
  | _ => none }
def fnExactStowageTanksRow : OpenClaim := { program := "ytldjnfcdmhcjdaa", sum := "5377c2ce5713de4e2641d62032d764320d334b20eb9c84920be6ad4148ef18da", func := "loop.example/cableship/laws.FnExactStowageTanks", spec := "fnExactStowageTanks", unfollowed := true, recurses := true, apart := false }
def FnExactStowageTanksSaid : Prop := fnExactStowageTanksRow.holds Try.pinned (OpenSpec.ofChange fnExactStowageTanksSpec)

/-- ITS FALSE NEIGHBOUR: 'it returns false'. Refute it at one input. -/
def fnExactStowageTanksWrong : ChangeSpec := { name := "fnExactStowageTanks", fn := fun _ => fun
  | [d1, d2] => { results := [.lit (.bool false)], args := [d1, d2] }
  | _ => none }
def FnExactStowageTanksWrongFalsely : Prop := fnExactStowageTanksRow.holds Try.pinned (OpenSpec.ofChange fnExactStowageTanksWrong)

/-- 'laws.FnExactStowageMost': WHATEVER THE INPUT: true; the input reads as it did. -/
def fnExactStowageMostSpec : ChangeSpec := { name := "fnExactStowageMost", fn := fun _ => fun
  | [d1, d2] => { results := [.lit (.bool true)], args := [d1, d2] }
  | _ => none }
def fnExactStowageMostRow : OpenClaim := { program := "ytldjnfcdmhcjdaa", sum := "5377c2ce5713de4e2641d62032d764320d334b20eb9c84920be6ad4148ef18da", func := "loop.example/cableship/laws.FnExactStowageMost", spec := "fnExactStowageMost", unfollowed := true, recurses := true, apart := false }
def FnExactStowageMostSaid : Prop := fnExactStowageMostRow.holds Try.pinned (OpenSpec.ofChange fnExactStowageMostSpec)

/-- ITS FALSE NEIGHBOUR: 'it returns false'. Refute it at one input. -/
def fnExactStowageMostWrong : ChangeSpec := { name := "fnExactStowageMost", fn := fun _ => fun
  | [d1, d2] => { results := [.lit (.bool false)], args := [d1, d2] }
  | _ => none }
def FnExactStowageMostWrongFalsely : Prop := fnExactStowageMostRow.holds Try.pinned (OpenSpec.ofChange fnExactStowageMostWrong)

/-- 'laws.FnExactStowageOut': WHATEVER THE INPUT: true; the input reads as it did. -/
def fnExactStowageOutSpec : ChangeSpec := { name := "fnExactStowageOut", fn := fun _ => fun
  | [d1, d2] => { results := [.lit (.bool true)], args := [d1, d2] }
  | _ => none }
def fnExactStowageOutRow : OpenClaim := { program := "ytldjnfcdmhcjdaa", sum := "5377c2ce5713de4e2641d62032d764320d334b20eb9c84920be6ad4148ef18da", func := "loop.example/cableship/laws.FnExactStowageOut", spec := "fnExactStowageOut", unfollowed := true, recurses := true, apart := false }
def FnExactStowageOutSaid : Prop := fnExactStowageOutRow.holds Try.pinned (OpenSpec.ofChange fnExactStowageOutSpec)

/-- ITS FALSE NEIGHBOUR: 'it returns false'. Refute it at one input. -/
def fnExactStowageOutWrong : ChangeSpec := { name := "fnExactStowageOut", fn := fun _ => fun
  | [d1, d2] => { results := [.lit (.bool false)], args := [d1, d2] }
  | _ => none }
def FnExactStowageOutWrongFalsely : Prop := fnExactStowageOutRow.holds Try.pinned (OpenSpec.ofChange fnExactStowageOutWrong)

/-- 'laws.FnLongest': WHATEVER THE INPUT: true; the input reads as it did. -/
def fnLongestSpec : ChangeSpec := { name := "fnLongest", fn := fun _ => fun
  | [d] => { results := [.lit (.bool true)], args := [d] }
  | _ => none }
def fnLongestRow : OpenClaim := { program := "ytldjnfcdmhcjdaa", sum := "5377c2ce5713de4e2641d62032d764320d334b20eb9c84920be6ad4148ef18da", func := "loop.example/cableship/laws.FnLongest", spec := "fnLongest", apart := false }
def FnLongestSaid : Prop := fnLongestRow.holds Try.pinned (OpenSpec.ofChange fnLongestSpec)

/-- ITS FALSE NEIGHBOUR: 'it returns false'. Refute it at one input. -/
def fnLongestWrong : ChangeSpec := { name := "fnLongest", fn := fun _ => fun
  | [d] => { results := [.lit (.bool false)], args := [d] }
  | _ => none }
def FnLongestWrongFalsely : Prop := fnLongestRow.holds Try.pinned (OpenSpec.ofChange fnLongestWrong)

/-- 'laws.FnStowage': WHATEVER THE INPUT: true; the input reads as it did. -/
def fnStowageSpec : ChangeSpec := { name := "fnStowage", fn := fun _ => fun
  | [d1, d2] => { results := [.lit (.bool true)], args := [d1, d2] }
  | _ => none }
def fnStowageRow : OpenClaim := { program := "ytldjnfcdmhcjdaa", sum := "5377c2ce5713de4e2641d62032d764320d334b20eb9c84920be6ad4148ef18da", func := "loop.example/cableship/laws.FnStowage", spec := "fnStowage", unfollowed := true, recurses := true, apart := false }
def FnStowageSaid : Prop := fnStowageRow.holds Try.pinned (OpenSpec.ofChange fnStowageSpec)

/-- ITS FALSE NEIGHBOUR: 'it returns false'. Refute it at one input. -/
def fnStowageWrong : ChangeSpec := { name := "fnStowage", fn := fun _ => fun
  | [d1, d2] => { results := [.lit (.bool false)], args := [d1, d2] }
  | _ => none }
def FnStowageWrongFalsely : Prop := fnStowageRow.holds Try.pinned (OpenSpec.ofChange fnStowageWrong)

/-- 'laws.FnMost': WHATEVER THE INPUT: true; the input reads as it did. -/
def fnMostSpec : ChangeSpec := { name := "fnMost", fn := fun _ => fun
  | [d] => { results := [.lit (.bool true)], args := [d] }
  | _ => none }
def fnMostRow : OpenClaim := { program := "ytldjnfcdmhcjdaa", sum := "5377c2ce5713de4e2641d62032d764320d334b20eb9c84920be6ad4148ef18da", func := "loop.example/cableship/laws.FnMost", spec := "fnMost", unfollowed := true, recurses := true, apart := false }
def FnMostSaid : Prop := fnMostRow.holds Try.pinned (OpenSpec.ofChange fnMostSpec)

/-- ITS FALSE NEIGHBOUR: 'it returns false'. Refute it at one input. -/
def fnMostWrong : ChangeSpec := { name := "fnMost", fn := fun _ => fun
  | [d] => { results := [.lit (.bool false)], args := [d] }
  | _ => none }
def FnMostWrongFalsely : Prop := fnMostRow.holds Try.pinned (OpenSpec.ofChange fnMostWrong)

/-- 'laws.FnOut': WHATEVER THE INPUT: true; the input reads as it did. -/
def fnOutSpec : ChangeSpec := { name := "fnOut", fn := fun _ => fun
  | [d] => { results := [.lit (.bool true)], args := [d] }
  | _ => none }
def fnOutRow : OpenClaim := { program := "ytldjnfcdmhcjdaa", sum := "5377c2ce5713de4e2641d62032d764320d334b20eb9c84920be6ad4148ef18da", func := "loop.example/cableship/laws.FnOut", spec := "fnOut", unfollowed := true, recurses := true, apart := false }
def FnOutSaid : Prop := fnOutRow.holds Try.pinned (OpenSpec.ofChange fnOutSpec)

/-- ITS FALSE NEIGHBOUR: 'it returns false'. Refute it at one input. -/
def fnOutWrong : ChangeSpec := { name := "fnOut", fn := fun _ => fun
  | [d] => { results := [.lit (.bool false)], args := [d] }
  | _ => none }
def FnOutWrongFalsely : Prop := fnOutRow.holds Try.pinned (OpenSpec.ofChange fnOutWrong)

/- THE SECOND FORM. 'bulk': how many values and letters a reading holds, each counted each time it is reached (what is shared counts as often as it is met; a slice's spare places count too). A statement '..UptoSaid' is the law's where the arguments, and the package variables that the reading takes, are together of bulk at most 1048576: NARROWER than '..Said'. Prove '..Said' where nothing that the law and all that it calls make is longer than what came in: it says more and counts as full. Else prove '..UptoSaid'. A law counts once. -/
mutual
def uptoBulk {H : Type} : DataW H → Nat
  | .lit (.string bytes) => bytes.length + 1
  | .lit _ => 1
  | .nil => 1
  | .ptr d => uptoBulk d + 1
  | .slice elems spare => uptoBulkAll elems + uptoBulkAll spare + 1
  | .agg parts => uptoBulkAll parts + 1
  | .iface _ d => uptoBulk d + 1
  | .map entries => uptoBulkEntries entries + 1
  | .held _ => 1
def uptoBulkAll {H : Type} : List (DataW H) → Nat
  | [] => 0
  | d :: r => uptoBulk d + uptoBulkAll r
def uptoBulkEntries {H : Type} : List (Lit × DataW H) → Nat
  | [] => 0
  | x :: r => uptoBulkEntry x + uptoBulkEntries r
def uptoBulkEntry {H : Type} : Lit × DataW H → Nat
  | (.string bytes, d) => bytes.length + uptoBulk d + 1
  | (_, d) => uptoBulk d + 1
 end
def uptoSmall : (H : Type) → List (DataW H) → Bool := fun _ ds => decide (uptoBulkAll ds ≤ 1048576)
def OpenSpec.upto (s : _root_.Go.ChangeSpec) : _root_.Go.OpenSpec := { _root_.Go.OpenSpec.ofChange s with cond := some uptoSmall }

/-- 'laws.FnExactOrdersValid', WHERE WHAT IT READS IS OF BULK AT MOST 1048576: true; the input reads as it did. -/
def fnExactOrdersValidUptoRow : OpenClaim := { program := "ytldjnfcdmhcjdaa", sum := "5377c2ce5713de4e2641d62032d764320d334b20eb9c84920be6ad4148ef18da", func := "loop.example/cableship/laws.FnExactOrdersValid", spec := "fnExactOrdersValid", apart := false, narrowed := true }
def FnExactOrdersValidUptoSaid : Prop := fnExactOrdersValidUptoRow.holds Try.pinned (OpenSpec.upto fnExactOrdersValidSpec)

/-- 'laws.FnExactOrdersAgree', WHERE WHAT IT READS IS OF BULK AT MOST 1048576: true; the input reads as it did. -/
def fnExactOrdersAgreeUptoRow : OpenClaim := { program := "ytldjnfcdmhcjdaa", sum := "5377c2ce5713de4e2641d62032d764320d334b20eb9c84920be6ad4148ef18da", func := "loop.example/cableship/laws.FnExactOrdersAgree", spec := "fnExactOrdersAgree", apart := false, narrowed := true }
def FnExactOrdersAgreeUptoSaid : Prop := fnExactOrdersAgreeUptoRow.holds Try.pinned (OpenSpec.upto fnExactOrdersAgreeSpec)

/-- 'laws.FnExactOrdersPairs', WHERE WHAT IT READS IS OF BULK AT MOST 1048576: true; the input reads as it did. -/
def fnExactOrdersPairsUptoRow : OpenClaim := { program := "ytldjnfcdmhcjdaa", sum := "5377c2ce5713de4e2641d62032d764320d334b20eb9c84920be6ad4148ef18da", func := "loop.example/cableship/laws.FnExactOrdersPairs", spec := "fnExactOrdersPairs", apart := false, narrowed := true }
def FnExactOrdersPairsUptoSaid : Prop := fnExactOrdersPairsUptoRow.holds Try.pinned (OpenSpec.upto fnExactOrdersPairsSpec)

/-- 'laws.FnExactOrdersDrop', WHERE WHAT IT READS IS OF BULK AT MOST 1048576: true; the input reads as it did. -/
def fnExactOrdersDropUptoRow : OpenClaim := { program := "ytldjnfcdmhcjdaa", sum := "5377c2ce5713de4e2641d62032d764320d334b20eb9c84920be6ad4148ef18da", func := "loop.example/cableship/laws.FnExactOrdersDrop", spec := "fnExactOrdersDrop", apart := false, narrowed := true }
def FnExactOrdersDropUptoSaid : Prop := fnExactOrdersDropUptoRow.holds Try.pinned (OpenSpec.upto fnExactOrdersDropSpec)

/-- 'laws.FnExactOrdersBack', WHERE WHAT IT READS IS OF BULK AT MOST 1048576: true; the input reads as it did. -/
def fnExactOrdersBackUptoRow : OpenClaim := { program := "ytldjnfcdmhcjdaa", sum := "5377c2ce5713de4e2641d62032d764320d334b20eb9c84920be6ad4148ef18da", func := "loop.example/cableship/laws.FnExactOrdersBack", spec := "fnExactOrdersBack", unfollowed := true, recurses := true, apart := false, narrowed := true }
def FnExactOrdersBackUptoSaid : Prop := fnExactOrdersBackUptoRow.holds Try.pinned (OpenSpec.upto fnExactOrdersBackSpec)

/-- 'laws.FnExactStowageValid', WHERE WHAT IT READS IS OF BULK AT MOST 1048576: true; the input reads as it did. -/
def fnExactStowageValidUptoRow : OpenClaim := { program := "ytldjnfcdmhcjdaa", sum := "5377c2ce5713de4e2641d62032d764320d334b20eb9c84920be6ad4148ef18da", func := "loop.example/cableship/laws.FnExactStowageValid", spec := "fnExactStowageValid", unfollowed := true, recurses := true, apart := false, narrowed := true }
def FnExactStowageValidUptoSaid : Prop := fnExactStowageValidUptoRow.holds Try.pinned (OpenSpec.upto fnExactStowageValidSpec)

/-- 'laws.FnExactOrdersLongest', WHERE WHAT IT READS IS OF BULK AT MOST 1048576: true; the input reads as it did. -/
def fnExactOrdersLongestUptoRow : OpenClaim := { program := "ytldjnfcdmhcjdaa", sum := "5377c2ce5713de4e2641d62032d764320d334b20eb9c84920be6ad4148ef18da", func := "loop.example/cableship/laws.FnExactOrdersLongest", spec := "fnExactOrdersLongest", apart := false, narrowed := true }
def FnExactOrdersLongestUptoSaid : Prop := fnExactOrdersLongestUptoRow.holds Try.pinned (OpenSpec.upto fnExactOrdersLongestSpec)

/-- 'laws.FnAgree', WHERE WHAT IT READS IS OF BULK AT MOST 1048576: true; the input reads as it did. -/
def fnAgreeUptoRow : OpenClaim := { program := "ytldjnfcdmhcjdaa", sum := "5377c2ce5713de4e2641d62032d764320d334b20eb9c84920be6ad4148ef18da", func := "loop.example/cableship/laws.FnAgree", spec := "fnAgree", unfollowed := true, recurses := true, apart := false, narrowed := true }
def FnAgreeUptoSaid : Prop := fnAgreeUptoRow.holds Try.pinned (OpenSpec.upto fnAgreeSpec)

/-- 'laws.FnDrop', WHERE WHAT IT READS IS OF BULK AT MOST 1048576: true; the input reads as it did. -/
def fnDropUptoRow : OpenClaim := { program := "ytldjnfcdmhcjdaa", sum := "5377c2ce5713de4e2641d62032d764320d334b20eb9c84920be6ad4148ef18da", func := "loop.example/cableship/laws.FnDrop", spec := "fnDrop", apart := false, narrowed := true }
def FnDropUptoSaid : Prop := fnDropUptoRow.holds Try.pinned (OpenSpec.upto fnDropSpec)

/-- 'laws.FnExactStowageTanks', WHERE WHAT IT READS IS OF BULK AT MOST 1048576: true; the input reads as it did. -/
def fnExactStowageTanksUptoRow : OpenClaim := { program := "ytldjnfcdmhcjdaa", sum := "5377c2ce5713de4e2641d62032d764320d334b20eb9c84920be6ad4148ef18da", func := "loop.example/cableship/laws.FnExactStowageTanks", spec := "fnExactStowageTanks", unfollowed := true, recurses := true, apart := false, narrowed := true }
def FnExactStowageTanksUptoSaid : Prop := fnExactStowageTanksUptoRow.holds Try.pinned (OpenSpec.upto fnExactStowageTanksSpec)

/-- 'laws.FnExactStowageMost', WHERE WHAT IT READS IS OF BULK AT MOST 1048576: true; the input reads as it did. -/
def fnExactStowageMostUptoRow : OpenClaim := { program := "ytldjnfcdmhcjdaa", sum := "5377c2ce5713de4e2641d62032d764320d334b20eb9c84920be6ad4148ef18da", func := "loop.example/cableship/laws.FnExactStowageMost", spec := "fnExactStowageMost", unfollowed := true, recurses := true, apart := false, narrowed := true }
def FnExactStowageMostUptoSaid : Prop := fnExactStowageMostUptoRow.holds Try.pinned (OpenSpec.upto fnExactStowageMostSpec)

/-- 'laws.FnExactStowageOut', WHERE WHAT IT READS IS OF BULK AT MOST 1048576: true; the input reads as it did. -/
def fnExactStowageOutUptoRow : OpenClaim := { program := "ytldjnfcdmhcjdaa", sum := "5377c2ce5713de4e2641d62032d764320d334b20eb9c84920be6ad4148ef18da", func := "loop.example/cableship/laws.FnExactStowageOut", spec := "fnExactStowageOut", unfollowed := true, recurses := true, apart := false, narrowed := true }
def FnExactStowageOutUptoSaid : Prop := fnExactStowageOutUptoRow.holds Try.pinned (OpenSpec.upto fnExactStowageOutSpec)

/-- 'laws.FnLongest', WHERE WHAT IT READS IS OF BULK AT MOST 1048576: true; the input reads as it did. -/
def fnLongestUptoRow : OpenClaim := { program := "ytldjnfcdmhcjdaa", sum := "5377c2ce5713de4e2641d62032d764320d334b20eb9c84920be6ad4148ef18da", func := "loop.example/cableship/laws.FnLongest", spec := "fnLongest", apart := false, narrowed := true }
def FnLongestUptoSaid : Prop := fnLongestUptoRow.holds Try.pinned (OpenSpec.upto fnLongestSpec)

/-- 'laws.FnStowage', WHERE WHAT IT READS IS OF BULK AT MOST 1048576: true; the input reads as it did. -/
def fnStowageUptoRow : OpenClaim := { program := "ytldjnfcdmhcjdaa", sum := "5377c2ce5713de4e2641d62032d764320d334b20eb9c84920be6ad4148ef18da", func := "loop.example/cableship/laws.FnStowage", spec := "fnStowage", unfollowed := true, recurses := true, apart := false, narrowed := true }
def FnStowageUptoSaid : Prop := fnStowageUptoRow.holds Try.pinned (OpenSpec.upto fnStowageSpec)

/-- 'laws.FnMost', WHERE WHAT IT READS IS OF BULK AT MOST 1048576: true; the input reads as it did. -/
def fnMostUptoRow : OpenClaim := { program := "ytldjnfcdmhcjdaa", sum := "5377c2ce5713de4e2641d62032d764320d334b20eb9c84920be6ad4148ef18da", func := "loop.example/cableship/laws.FnMost", spec := "fnMost", unfollowed := true, recurses := true, apart := false, narrowed := true }
def FnMostUptoSaid : Prop := fnMostUptoRow.holds Try.pinned (OpenSpec.upto fnMostSpec)

/-- 'laws.FnOut', WHERE WHAT IT READS IS OF BULK AT MOST 1048576: true; the input reads as it did. -/
def fnOutUptoRow : OpenClaim := { program := "ytldjnfcdmhcjdaa", sum := "5377c2ce5713de4e2641d62032d764320d334b20eb9c84920be6ad4148ef18da", func := "loop.example/cableship/laws.FnOut", spec := "fnOut", unfollowed := true, recurses := true, apart := false, narrowed := true }
def FnOutUptoSaid : Prop := fnOutUptoRow.holds Try.pinned (OpenSpec.upto fnOutSpec)

end Rows
end Go.Proofs.Ytldjnfcdmhcjdaa
