/-
  DERIVED. GIVEN WITH THE SEED: THE CARDS: each row of YtnapepffpbbkoaaDoorRows.lean that lists a variable, with what it lists TIED to the program's text (the seventh form; the later family's looks); each row that meets fmt, with fmt's text TOLD by the authors' own Lean function (tested against real Go, not proved from fmt's source: count such statements apart). THE CARD IS WHAT COUNTS. Prove the row's statement (the work); the ties are given (YtnapepffpbbkoaaDoorTie.lean); close each card by the builder's one call (the guide's Derived/Test/ToyasCard.lean, 'card_holds'). Laid BY PROGRAM, IN A SANDBOX (cutbox-door.mjs). By AI agents, Wed Nov 11 2026. No macro, syntax, notation, axiom, sorry.
-/
import Derived.Test.YtnapepffpbbkoaaDoorRows
import GoSem.ClaimSeven
namespace Go.Proofs.YtnapepffpbbkoaaDoor
namespace Rows

/-- THE TIED CARD OF 'smithyardlaw5.ActionLooksMatchSpec'. -/
def actionLooksMatchSpecCard : Claim7 := { stood := { row := actionLooksMatchSpecRow, standIns := [], harness := (true, "2cebf2e67b00e3254e69810037860b9a403c1f9bfb0c8252bf03a1df8320e8f1"), looks := false }, kinds := [], alts := [], laidByText := true, laidKinds := [.data, .pinned], laidTests := true, laidLooks := .later }
def ActionLooksMatchSpecCardSaid : Prop := Claim7.holds Tryd.pinned (.plain (OpenSpec.ofChange actionLooksMatchSpecSpec)) actionLooksMatchSpecCard

/-- THE SECOND FORM's CARD OF 'smithyardlaw5.ActionLooksMatchSpec'. -/
def actionLooksMatchSpecUptoCard : Claim7 := { stood := { row := actionLooksMatchSpecUptoRow, standIns := [], harness := (true, "2cebf2e67b00e3254e69810037860b9a403c1f9bfb0c8252bf03a1df8320e8f1"), looks := false }, kinds := [], alts := [], laidByText := true, laidKinds := [.data, .pinned], laidTests := true, laidLooks := .later }
def ActionLooksMatchSpecUptoCardSaid : Prop := Claim7.holds Tryd.pinned (.plain (OpenSpec.upto actionLooksMatchSpecSpec)) actionLooksMatchSpecUptoCard
end Rows
end Go.Proofs.YtnapepffpbbkoaaDoor
