/-
  DERIVED. GIVEN WITH THE SEED: THE CARDS: each row of YtkneddlelcmmjaaGreatDoorRows.lean that lists a variable, with what it lists TIED to the program's text (the seventh form; the later family's looks); each row that meets fmt, with fmt's text TOLD by the authors' own Lean function (tested against real Go, not proved from fmt's source: count such statements apart). THE CARD IS WHAT COUNTS. Prove the row's statement (the work); the ties are given (YtkneddlelcmmjaaGreatDoorTie.lean); close each card by the builder's one call (the guide's Derived/Test/ToyasCard.lean, 'card_holds'). Laid BY PROGRAM, IN A SANDBOX (cutbox-door.mjs). By AI agents, Wed Nov 11 2026. No macro, syntax, notation, axiom, sorry.
-/
import Derived.Test.YtkneddlelcmmjaaGreatDoorRows
import GoSem.ClaimSeven
namespace Go.Proofs.YtkneddlelcmmjaaGreatDoor
namespace Rows

/-- THE TIED CARD OF 'smithyardlaw5.ActionLooksDecide'. -/
def actionLooksDecideCard : Claim7 := { stood := { row := actionLooksDecideRow, standIns := [], harness := (true, "7d92060bfe1cac70a083ed17e971599161d5f57f2382e6256405e2bc845023be"), looks := true }, kinds := [], alts := [], laidByText := true, laidKinds := [.data, .data, .data, .data, .sentinel, .sentinel, .pinned], laidTests := true, laidLooks := .later }
def ActionLooksDecideCardSaid : Prop := Claim7.holds Tryz.pinned (.plain (OpenSpec.ofChange actionLooksDecideSpec)) actionLooksDecideCard

/-- THE TIED CARD OF 'smithyardlaw5.ActionNeedsNoMore'. -/
def actionNeedsNoMoreCard : Claim7 := { stood := { row := actionNeedsNoMoreRow, standIns := [], harness := (true, "7d92060bfe1cac70a083ed17e971599161d5f57f2382e6256405e2bc845023be"), looks := true }, kinds := [], alts := [], laidByText := true, laidKinds := [.data, .data, .data, .data, .sentinel, .sentinel, .pinned], laidTests := true, laidLooks := .later }
def ActionNeedsNoMoreCardSaid : Prop := Claim7.holds Tryz.pinned (.plain (OpenSpec.ofChange actionNeedsNoMoreSpec)) actionNeedsNoMoreCard

/-- THE TIED CARD OF 'smithyardlaw5.ActionLooksStand'. -/
def actionLooksStandCard : Claim7 := { stood := { row := actionLooksStandRow, standIns := [], harness := (true, "7d92060bfe1cac70a083ed17e971599161d5f57f2382e6256405e2bc845023be"), looks := true }, kinds := [], alts := [], laidByText := true, laidKinds := [.data, .data, .data, .data, .sentinel, .sentinel, .pinned], laidTests := true, laidLooks := .later }
def ActionLooksStandCardSaid : Prop := Claim7.holds Tryz.pinned (.plain (OpenSpec.ofChange actionLooksStandSpec)) actionLooksStandCard

/-- THE TIED CARD OF 'smithyardlaw5.ActionResultsAreRight'. -/
def actionResultsAreRightCard : Claim7 := { stood := { row := actionResultsAreRightRow, standIns := [], harness := (true, "7d92060bfe1cac70a083ed17e971599161d5f57f2382e6256405e2bc845023be"), looks := true }, kinds := [], alts := [], laidByText := true, laidKinds := [.data, .data, .data, .data, .sentinel, .sentinel, .pinned], laidTests := true, laidLooks := .later }
def ActionResultsAreRightCardSaid : Prop := Claim7.holds Tryz.pinned (.plain (OpenSpec.ofChange actionResultsAreRightSpec)) actionResultsAreRightCard

/-- THE TIED CARD OF 'smithyardlaw5.ActionReducedIsEnough'. -/
def actionReducedIsEnoughCard : Claim7 := { stood := { row := actionReducedIsEnoughRow, standIns := [], harness := (true, "7d92060bfe1cac70a083ed17e971599161d5f57f2382e6256405e2bc845023be"), looks := true }, kinds := [], alts := [], laidByText := true, laidKinds := [.data, .data, .data, .data, .sentinel, .sentinel, .pinned], laidTests := true, laidLooks := .later }
def ActionReducedIsEnoughCardSaid : Prop := Claim7.holds Tryz.pinned (.plain (OpenSpec.ofChange actionReducedIsEnoughSpec)) actionReducedIsEnoughCard

/-- THE TIED CARD OF 'smithyardlaw5.ActionResultsAreNew'. -/
def actionResultsAreNewCard : Claim7 := { stood := { row := actionResultsAreNewRow, standIns := [], harness := (true, "7d92060bfe1cac70a083ed17e971599161d5f57f2382e6256405e2bc845023be"), looks := true }, kinds := [], alts := [], laidByText := true, laidKinds := [.data, .data, .data, .data, .sentinel, .sentinel, .pinned], laidTests := true, laidLooks := .later }
def ActionResultsAreNewCardSaid : Prop := Claim7.holds Tryz.pinned (.plain (OpenSpec.ofChange actionResultsAreNewSpec)) actionResultsAreNewCard

/-- THE TIED CARD OF 'smithyardlaw5.ActionExecutesMatchSpec'. -/
def actionExecutesMatchSpecCard : Claim7 := { stood := { row := actionExecutesMatchSpecRow, standIns := [], harness := (true, "7d92060bfe1cac70a083ed17e971599161d5f57f2382e6256405e2bc845023be"), looks := true }, kinds := [], alts := [], laidByText := true, laidKinds := [.data, .data, .data, .data, .sentinel, .sentinel, .pinned], laidTests := true, laidLooks := .later }
def ActionExecutesMatchSpecCardSaid : Prop := Claim7.holds Tryz.pinned (.plain (OpenSpec.ofChange actionExecutesMatchSpecSpec)) actionExecutesMatchSpecCard

/-- THE TIED CARD OF 'smithyardlaw5.ActionUnreadMatchSpec'. -/
def actionUnreadMatchSpecCard : Claim7 := { stood := { row := actionUnreadMatchSpecRow, standIns := [], harness := (true, "7d92060bfe1cac70a083ed17e971599161d5f57f2382e6256405e2bc845023be"), looks := true }, kinds := [], alts := [], laidByText := true, laidKinds := [.data, .data, .data, .data, .sentinel, .sentinel, .pinned], laidTests := true, laidLooks := .later }
def ActionUnreadMatchSpecCardSaid : Prop := Claim7.holds Tryz.pinned (.plain (OpenSpec.ofChange actionUnreadMatchSpecSpec)) actionUnreadMatchSpecCard

/-- THE SECOND FORM's CARD OF 'smithyardlaw5.ActionLooksDecide'. -/
def actionLooksDecideUptoCard : Claim7 := { stood := { row := actionLooksDecideUptoRow, standIns := [], harness := (true, "7d92060bfe1cac70a083ed17e971599161d5f57f2382e6256405e2bc845023be"), looks := true }, kinds := [], alts := [], laidByText := true, laidKinds := [.data, .data, .data, .data, .sentinel, .sentinel, .pinned], laidTests := true, laidLooks := .later }
def ActionLooksDecideUptoCardSaid : Prop := Claim7.holds Tryz.pinned (.plain (OpenSpec.upto actionLooksDecideSpec)) actionLooksDecideUptoCard

/-- THE SECOND FORM's CARD OF 'smithyardlaw5.ActionNeedsNoMore'. -/
def actionNeedsNoMoreUptoCard : Claim7 := { stood := { row := actionNeedsNoMoreUptoRow, standIns := [], harness := (true, "7d92060bfe1cac70a083ed17e971599161d5f57f2382e6256405e2bc845023be"), looks := true }, kinds := [], alts := [], laidByText := true, laidKinds := [.data, .data, .data, .data, .sentinel, .sentinel, .pinned], laidTests := true, laidLooks := .later }
def ActionNeedsNoMoreUptoCardSaid : Prop := Claim7.holds Tryz.pinned (.plain (OpenSpec.upto actionNeedsNoMoreSpec)) actionNeedsNoMoreUptoCard

/-- THE SECOND FORM's CARD OF 'smithyardlaw5.ActionLooksStand'. -/
def actionLooksStandUptoCard : Claim7 := { stood := { row := actionLooksStandUptoRow, standIns := [], harness := (true, "7d92060bfe1cac70a083ed17e971599161d5f57f2382e6256405e2bc845023be"), looks := true }, kinds := [], alts := [], laidByText := true, laidKinds := [.data, .data, .data, .data, .sentinel, .sentinel, .pinned], laidTests := true, laidLooks := .later }
def ActionLooksStandUptoCardSaid : Prop := Claim7.holds Tryz.pinned (.plain (OpenSpec.upto actionLooksStandSpec)) actionLooksStandUptoCard

/-- THE SECOND FORM's CARD OF 'smithyardlaw5.ActionResultsAreRight'. -/
def actionResultsAreRightUptoCard : Claim7 := { stood := { row := actionResultsAreRightUptoRow, standIns := [], harness := (true, "7d92060bfe1cac70a083ed17e971599161d5f57f2382e6256405e2bc845023be"), looks := true }, kinds := [], alts := [], laidByText := true, laidKinds := [.data, .data, .data, .data, .sentinel, .sentinel, .pinned], laidTests := true, laidLooks := .later }
def ActionResultsAreRightUptoCardSaid : Prop := Claim7.holds Tryz.pinned (.plain (OpenSpec.upto actionResultsAreRightSpec)) actionResultsAreRightUptoCard

/-- THE SECOND FORM's CARD OF 'smithyardlaw5.ActionReducedIsEnough'. -/
def actionReducedIsEnoughUptoCard : Claim7 := { stood := { row := actionReducedIsEnoughUptoRow, standIns := [], harness := (true, "7d92060bfe1cac70a083ed17e971599161d5f57f2382e6256405e2bc845023be"), looks := true }, kinds := [], alts := [], laidByText := true, laidKinds := [.data, .data, .data, .data, .sentinel, .sentinel, .pinned], laidTests := true, laidLooks := .later }
def ActionReducedIsEnoughUptoCardSaid : Prop := Claim7.holds Tryz.pinned (.plain (OpenSpec.upto actionReducedIsEnoughSpec)) actionReducedIsEnoughUptoCard

/-- THE SECOND FORM's CARD OF 'smithyardlaw5.ActionResultsAreNew'. -/
def actionResultsAreNewUptoCard : Claim7 := { stood := { row := actionResultsAreNewUptoRow, standIns := [], harness := (true, "7d92060bfe1cac70a083ed17e971599161d5f57f2382e6256405e2bc845023be"), looks := true }, kinds := [], alts := [], laidByText := true, laidKinds := [.data, .data, .data, .data, .sentinel, .sentinel, .pinned], laidTests := true, laidLooks := .later }
def ActionResultsAreNewUptoCardSaid : Prop := Claim7.holds Tryz.pinned (.plain (OpenSpec.upto actionResultsAreNewSpec)) actionResultsAreNewUptoCard

/-- THE SECOND FORM's CARD OF 'smithyardlaw5.ActionExecutesMatchSpec'. -/
def actionExecutesMatchSpecUptoCard : Claim7 := { stood := { row := actionExecutesMatchSpecUptoRow, standIns := [], harness := (true, "7d92060bfe1cac70a083ed17e971599161d5f57f2382e6256405e2bc845023be"), looks := true }, kinds := [], alts := [], laidByText := true, laidKinds := [.data, .data, .data, .data, .sentinel, .sentinel, .pinned], laidTests := true, laidLooks := .later }
def ActionExecutesMatchSpecUptoCardSaid : Prop := Claim7.holds Tryz.pinned (.plain (OpenSpec.upto actionExecutesMatchSpecSpec)) actionExecutesMatchSpecUptoCard

/-- THE SECOND FORM's CARD OF 'smithyardlaw5.ActionUnreadMatchSpec'. -/
def actionUnreadMatchSpecUptoCard : Claim7 := { stood := { row := actionUnreadMatchSpecUptoRow, standIns := [], harness := (true, "7d92060bfe1cac70a083ed17e971599161d5f57f2382e6256405e2bc845023be"), looks := true }, kinds := [], alts := [], laidByText := true, laidKinds := [.data, .data, .data, .data, .sentinel, .sentinel, .pinned], laidTests := true, laidLooks := .later }
def ActionUnreadMatchSpecUptoCardSaid : Prop := Claim7.holds Tryz.pinned (.plain (OpenSpec.upto actionUnreadMatchSpecSpec)) actionUnreadMatchSpecUptoCard
end Rows
end Go.Proofs.YtkneddlelcmmjaaGreatDoor
