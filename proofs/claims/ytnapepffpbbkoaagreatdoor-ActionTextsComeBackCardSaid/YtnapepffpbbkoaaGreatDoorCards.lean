/-
  DERIVED. GIVEN WITH THE SEED: THE CARDS: each row of YtnapepffpbbkoaaGreatDoorRows.lean that lists a variable, with what it lists TIED to the program's text (the seventh form; the later family's looks); each row that meets fmt, with fmt's text TOLD by the authors' own Lean function (tested against real Go, not proved from fmt's source: count such statements apart). THE CARD IS WHAT COUNTS. Prove the row's statement (the work); the ties are given (YtnapepffpbbkoaaGreatDoorTie.lean); close each card by the builder's one call (the guide's Derived/Test/ToyasCard.lean, 'card_holds'). Laid BY PROGRAM, IN A SANDBOX (cutbox-door.mjs). By AI agents, Wed Nov 11 2026. No macro, syntax, notation, axiom, sorry.
-/
import Derived.Test.YtnapepffpbbkoaaGreatDoorRows
import GoSem.ClaimSeven
namespace Go.Proofs.YtnapepffpbbkoaaGreatDoor
namespace Rows

/-- THE TIED CARD OF 'smithyardlaw5.ResultsMatchSpec'. -/
def resultsMatchSpecCard : Claim7 := { stood := { row := resultsMatchSpecRow, standIns := [], harness := (true, "44628d5b6b2c1c0417341b6275fd5333dc5bb73d7a2f211843aefd6dad3ab235"), looks := true }, kinds := [], alts := [], laidByText := true, laidKinds := [.data, .data, .data, .data, .pinned], laidTests := true, laidLooks := .later }
def ResultsMatchSpecCardSaid : Prop := Claim7.holds Tryz.pinned (.plain (OpenSpec.ofChange resultsMatchSpecSpec)) resultsMatchSpecCard

/-- THE TIED CARD OF 'smithyardlaw5.ResultsReadMatchSpec'. -/
def resultsReadMatchSpecCard : Claim7 := { stood := { row := resultsReadMatchSpecRow, standIns := [], harness := (true, "44628d5b6b2c1c0417341b6275fd5333dc5bb73d7a2f211843aefd6dad3ab235"), looks := true }, kinds := [], alts := [], laidByText := true, laidKinds := [.data, .data, .data, .data, .sentinel, .sentinel, .pinned], laidTests := true, laidLooks := .later }
def ResultsReadMatchSpecCardSaid : Prop := Claim7.holds Tryz.pinned (.plain (OpenSpec.ofChange resultsReadMatchSpecSpec)) resultsReadMatchSpecCard

/-- THE TIED CARD OF 'smithyardlaw5.ResultsComeBack'. -/
def resultsComeBackCard : Claim7 := { stood := { row := resultsComeBackRow, standIns := [], harness := (true, "44628d5b6b2c1c0417341b6275fd5333dc5bb73d7a2f211843aefd6dad3ab235"), looks := true }, kinds := [], alts := [], laidByText := true, laidKinds := [.data, .data, .data, .data, .sentinel, .sentinel, .pinned], laidTests := true, laidLooks := .later }
def ResultsComeBackCardSaid : Prop := Claim7.holds Tryz.pinned (.plain (OpenSpec.ofChange resultsComeBackSpec)) resultsComeBackCard

/-- THE TIED CARD OF 'smithyardlaw5.ActionReadsMatchSpec'. -/
def actionReadsMatchSpecCard : Claim7 := { stood := { row := actionReadsMatchSpecRow, standIns := [], harness := (true, "44628d5b6b2c1c0417341b6275fd5333dc5bb73d7a2f211843aefd6dad3ab235"), looks := true }, kinds := [], alts := [], laidByText := true, laidKinds := [.data, .data, .data, .data, .sentinel, .sentinel, .pinned], laidTests := true, laidLooks := .later }
def ActionReadsMatchSpecCardSaid : Prop := Claim7.holds Tryz.pinned (.plain (OpenSpec.ofChange actionReadsMatchSpecSpec)) actionReadsMatchSpecCard

/-- THE TIED CARD OF 'smithyardlaw5.ActionChecksMatchSpec'. -/
def actionChecksMatchSpecCard : Claim7 := { stood := { row := actionChecksMatchSpecRow, standIns := [], harness := (true, "44628d5b6b2c1c0417341b6275fd5333dc5bb73d7a2f211843aefd6dad3ab235"), looks := true }, kinds := [], alts := [], laidByText := true, laidKinds := [.data, .data, .data, .data, .sentinel, .sentinel, .pinned], laidTests := true, laidLooks := .later }
def ActionChecksMatchSpecCardSaid : Prop := Claim7.holds Tryz.pinned (.plain (OpenSpec.ofChange actionChecksMatchSpecSpec)) actionChecksMatchSpecCard

/-- THE TIED CARD OF 'smithyardlaw5.ActionKeysMatchSpec'. -/
def actionKeysMatchSpecCard : Claim7 := { stood := { row := actionKeysMatchSpecRow, standIns := [], harness := (true, "44628d5b6b2c1c0417341b6275fd5333dc5bb73d7a2f211843aefd6dad3ab235"), looks := true }, kinds := [], alts := [], laidByText := true, laidKinds := [.data, .data, .data, .data, .sentinel, .sentinel, .pinned], laidTests := true, laidLooks := .later }
def ActionKeysMatchSpecCardSaid : Prop := Claim7.holds Tryz.pinned (.plain (OpenSpec.ofChange actionKeysMatchSpecSpec)) actionKeysMatchSpecCard

/-- THE TIED CARD OF 'smithyardlaw5.ActionTextsComeBack'. -/
def actionTextsComeBackCard : Claim7 := { stood := { row := actionTextsComeBackRow, standIns := [], harness := (true, "44628d5b6b2c1c0417341b6275fd5333dc5bb73d7a2f211843aefd6dad3ab235"), looks := true }, kinds := [], alts := [], laidByText := true, laidKinds := [.data, .data, .data, .data, .sentinel, .sentinel, .pinned], laidTests := true, laidLooks := .later }
def ActionTextsComeBackCardSaid : Prop := Claim7.holds Tryz.pinned (.plain (OpenSpec.ofChange actionTextsComeBackSpec)) actionTextsComeBackCard

/-- THE SECOND FORM's CARD OF 'smithyardlaw5.ResultsMatchSpec'. -/
def resultsMatchSpecUptoCard : Claim7 := { stood := { row := resultsMatchSpecUptoRow, standIns := [], harness := (true, "44628d5b6b2c1c0417341b6275fd5333dc5bb73d7a2f211843aefd6dad3ab235"), looks := true }, kinds := [], alts := [], laidByText := true, laidKinds := [.data, .data, .data, .data, .pinned], laidTests := true, laidLooks := .later }
def ResultsMatchSpecUptoCardSaid : Prop := Claim7.holds Tryz.pinned (.plain (OpenSpec.upto resultsMatchSpecSpec)) resultsMatchSpecUptoCard

/-- THE SECOND FORM's CARD OF 'smithyardlaw5.ResultsReadMatchSpec'. -/
def resultsReadMatchSpecUptoCard : Claim7 := { stood := { row := resultsReadMatchSpecUptoRow, standIns := [], harness := (true, "44628d5b6b2c1c0417341b6275fd5333dc5bb73d7a2f211843aefd6dad3ab235"), looks := true }, kinds := [], alts := [], laidByText := true, laidKinds := [.data, .data, .data, .data, .sentinel, .sentinel, .pinned], laidTests := true, laidLooks := .later }
def ResultsReadMatchSpecUptoCardSaid : Prop := Claim7.holds Tryz.pinned (.plain (OpenSpec.upto resultsReadMatchSpecSpec)) resultsReadMatchSpecUptoCard

/-- THE SECOND FORM's CARD OF 'smithyardlaw5.ResultsComeBack'. -/
def resultsComeBackUptoCard : Claim7 := { stood := { row := resultsComeBackUptoRow, standIns := [], harness := (true, "44628d5b6b2c1c0417341b6275fd5333dc5bb73d7a2f211843aefd6dad3ab235"), looks := true }, kinds := [], alts := [], laidByText := true, laidKinds := [.data, .data, .data, .data, .sentinel, .sentinel, .pinned], laidTests := true, laidLooks := .later }
def ResultsComeBackUptoCardSaid : Prop := Claim7.holds Tryz.pinned (.plain (OpenSpec.upto resultsComeBackSpec)) resultsComeBackUptoCard

/-- THE SECOND FORM's CARD OF 'smithyardlaw5.ActionReadsMatchSpec'. -/
def actionReadsMatchSpecUptoCard : Claim7 := { stood := { row := actionReadsMatchSpecUptoRow, standIns := [], harness := (true, "44628d5b6b2c1c0417341b6275fd5333dc5bb73d7a2f211843aefd6dad3ab235"), looks := true }, kinds := [], alts := [], laidByText := true, laidKinds := [.data, .data, .data, .data, .sentinel, .sentinel, .pinned], laidTests := true, laidLooks := .later }
def ActionReadsMatchSpecUptoCardSaid : Prop := Claim7.holds Tryz.pinned (.plain (OpenSpec.upto actionReadsMatchSpecSpec)) actionReadsMatchSpecUptoCard

/-- THE SECOND FORM's CARD OF 'smithyardlaw5.ActionChecksMatchSpec'. -/
def actionChecksMatchSpecUptoCard : Claim7 := { stood := { row := actionChecksMatchSpecUptoRow, standIns := [], harness := (true, "44628d5b6b2c1c0417341b6275fd5333dc5bb73d7a2f211843aefd6dad3ab235"), looks := true }, kinds := [], alts := [], laidByText := true, laidKinds := [.data, .data, .data, .data, .sentinel, .sentinel, .pinned], laidTests := true, laidLooks := .later }
def ActionChecksMatchSpecUptoCardSaid : Prop := Claim7.holds Tryz.pinned (.plain (OpenSpec.upto actionChecksMatchSpecSpec)) actionChecksMatchSpecUptoCard

/-- THE SECOND FORM's CARD OF 'smithyardlaw5.ActionKeysMatchSpec'. -/
def actionKeysMatchSpecUptoCard : Claim7 := { stood := { row := actionKeysMatchSpecUptoRow, standIns := [], harness := (true, "44628d5b6b2c1c0417341b6275fd5333dc5bb73d7a2f211843aefd6dad3ab235"), looks := true }, kinds := [], alts := [], laidByText := true, laidKinds := [.data, .data, .data, .data, .sentinel, .sentinel, .pinned], laidTests := true, laidLooks := .later }
def ActionKeysMatchSpecUptoCardSaid : Prop := Claim7.holds Tryz.pinned (.plain (OpenSpec.upto actionKeysMatchSpecSpec)) actionKeysMatchSpecUptoCard

/-- THE SECOND FORM's CARD OF 'smithyardlaw5.ActionTextsComeBack'. -/
def actionTextsComeBackUptoCard : Claim7 := { stood := { row := actionTextsComeBackUptoRow, standIns := [], harness := (true, "44628d5b6b2c1c0417341b6275fd5333dc5bb73d7a2f211843aefd6dad3ab235"), looks := true }, kinds := [], alts := [], laidByText := true, laidKinds := [.data, .data, .data, .data, .sentinel, .sentinel, .pinned], laidTests := true, laidLooks := .later }
def ActionTextsComeBackUptoCardSaid : Prop := Claim7.holds Tryz.pinned (.plain (OpenSpec.upto actionTextsComeBackSpec)) actionTextsComeBackUptoCard
end Rows
end Go.Proofs.YtnapepffpbbkoaaGreatDoor
