/-
  DERIVED. GIVEN WITH THE SEED: THE CARDS: each row of YthbkimojbbkeiaaDoorRows.lean that lists a variable, with what it lists TIED to the program's text (the seventh form; the later family's looks); each row that meets fmt, with fmt's text TOLD by the authors' own Lean function (tested against real Go, not proved from fmt's source: count such statements apart). THE CARD IS WHAT COUNTS. Prove the row's statement (the work); the ties are given (YthbkimojbbkeiaaDoorTie.lean); close each card by the builder's one call (the guide's Derived/Test/ToyasCard.lean, 'card_holds'). Laid BY PROGRAM, IN A SANDBOX (cutbox-door.mjs). By AI agents, Wed Nov 11 2026. No macro, syntax, notation, axiom, sorry.
-/
import Derived.Test.YthbkimojbbkeiaaDoorRows
import GoSem.ClaimSeven
namespace Go.Proofs.YthbkimojbbkeiaaDoor
namespace Rows

/-- THE TIED CARD OF 'laws.FnJoint'. -/
def fnJointCard : Claim7 := { stood := { row := fnJointRow, standIns := [], harness := (true, "63c63b5b0d609edcfb30ebf556ca6689c936c8326ac42e96486b87f7987fc2ce"), looks := false }, kinds := [], alts := [], laidByText := true, laidKinds := [.data, .data], laidTests := true, laidLooks := .later }
def FnJointCardSaid : Prop := Claim7.holds Tryd.pinned (.plain (OpenSpec.ofChange fnJointSpec)) fnJointCard

/-- THE TIED CARD OF 'laws.FnJointLongest'. -/
def fnJointLongestCard : Claim7 := { stood := { row := fnJointLongestRow, standIns := [], harness := (true, "63c63b5b0d609edcfb30ebf556ca6689c936c8326ac42e96486b87f7987fc2ce"), looks := false }, kinds := [], alts := [], laidByText := true, laidKinds := [.data, .data], laidTests := true, laidLooks := .later }
def FnJointLongestCardSaid : Prop := Claim7.holds Tryd.pinned (.plain (OpenSpec.ofChange fnJointLongestSpec)) fnJointLongestCard

/-- THE TIED CARD OF 'laws.FnExactJointFewest'. -/
def fnExactJointFewestCard : Claim7 := { stood := { row := fnExactJointFewestRow, standIns := [], harness := (true, "63c63b5b0d609edcfb30ebf556ca6689c936c8326ac42e96486b87f7987fc2ce"), looks := false }, kinds := [], alts := [], laidByText := true, laidKinds := [.data, .data], laidTests := true, laidLooks := .later }
def FnExactJointFewestCardSaid : Prop := Claim7.holds Tryd.pinned (.plain (OpenSpec.ofChange fnExactJointFewestSpec)) fnExactJointFewestCard

/-- THE TIED CARD OF 'laws.FnJointBest'. -/
def fnJointBestCard : Claim7 := { stood := { row := fnJointBestRow, standIns := [], harness := (true, "63c63b5b0d609edcfb30ebf556ca6689c936c8326ac42e96486b87f7987fc2ce"), looks := false }, kinds := [], alts := [], laidByText := true, laidKinds := [.data, .data], laidTests := true, laidLooks := .later }
def FnJointBestCardSaid : Prop := Claim7.holds Tryd.pinned (.plain (OpenSpec.ofChange fnJointBestSpec)) fnJointBestCard

/-- THE TIED CARD OF 'laws.FnExactJointBest'. -/
def fnExactJointBestCard : Claim7 := { stood := { row := fnExactJointBestRow, standIns := [], harness := (true, "63c63b5b0d609edcfb30ebf556ca6689c936c8326ac42e96486b87f7987fc2ce"), looks := false }, kinds := [], alts := [], laidByText := true, laidKinds := [.data, .data], laidTests := true, laidLooks := .later }
def FnExactJointBestCardSaid : Prop := Claim7.holds Tryd.pinned (.plain (OpenSpec.ofChange fnExactJointBestSpec)) fnExactJointBestCard

/-- THE SECOND FORM's CARD OF 'laws.FnJoint'. -/
def fnJointUptoCard : Claim7 := { stood := { row := fnJointUptoRow, standIns := [], harness := (true, "63c63b5b0d609edcfb30ebf556ca6689c936c8326ac42e96486b87f7987fc2ce"), looks := false }, kinds := [], alts := [], laidByText := true, laidKinds := [.data, .data], laidTests := true, laidLooks := .later }
def FnJointUptoCardSaid : Prop := Claim7.holds Tryd.pinned (.plain (OpenSpec.upto fnJointSpec)) fnJointUptoCard

/-- THE SECOND FORM's CARD OF 'laws.FnJointLongest'. -/
def fnJointLongestUptoCard : Claim7 := { stood := { row := fnJointLongestUptoRow, standIns := [], harness := (true, "63c63b5b0d609edcfb30ebf556ca6689c936c8326ac42e96486b87f7987fc2ce"), looks := false }, kinds := [], alts := [], laidByText := true, laidKinds := [.data, .data], laidTests := true, laidLooks := .later }
def FnJointLongestUptoCardSaid : Prop := Claim7.holds Tryd.pinned (.plain (OpenSpec.upto fnJointLongestSpec)) fnJointLongestUptoCard

/-- THE SECOND FORM's CARD OF 'laws.FnExactJointFewest'. -/
def fnExactJointFewestUptoCard : Claim7 := { stood := { row := fnExactJointFewestUptoRow, standIns := [], harness := (true, "63c63b5b0d609edcfb30ebf556ca6689c936c8326ac42e96486b87f7987fc2ce"), looks := false }, kinds := [], alts := [], laidByText := true, laidKinds := [.data, .data], laidTests := true, laidLooks := .later }
def FnExactJointFewestUptoCardSaid : Prop := Claim7.holds Tryd.pinned (.plain (OpenSpec.upto fnExactJointFewestSpec)) fnExactJointFewestUptoCard

/-- THE SECOND FORM's CARD OF 'laws.FnJointBest'. -/
def fnJointBestUptoCard : Claim7 := { stood := { row := fnJointBestUptoRow, standIns := [], harness := (true, "63c63b5b0d609edcfb30ebf556ca6689c936c8326ac42e96486b87f7987fc2ce"), looks := false }, kinds := [], alts := [], laidByText := true, laidKinds := [.data, .data], laidTests := true, laidLooks := .later }
def FnJointBestUptoCardSaid : Prop := Claim7.holds Tryd.pinned (.plain (OpenSpec.upto fnJointBestSpec)) fnJointBestUptoCard

/-- THE SECOND FORM's CARD OF 'laws.FnExactJointBest'. -/
def fnExactJointBestUptoCard : Claim7 := { stood := { row := fnExactJointBestUptoRow, standIns := [], harness := (true, "63c63b5b0d609edcfb30ebf556ca6689c936c8326ac42e96486b87f7987fc2ce"), looks := false }, kinds := [], alts := [], laidByText := true, laidKinds := [.data, .data], laidTests := true, laidLooks := .later }
def FnExactJointBestUptoCardSaid : Prop := Claim7.holds Tryd.pinned (.plain (OpenSpec.upto fnExactJointBestSpec)) fnExactJointBestUptoCard
end Rows
end Go.Proofs.YthbkimojbbkeiaaDoor
