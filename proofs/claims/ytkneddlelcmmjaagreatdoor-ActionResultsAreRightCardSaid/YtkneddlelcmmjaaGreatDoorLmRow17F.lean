/- The closed facts of the row of ActionResultsAreRight, one by one. -/
import Derived.Test.YtkneddlelcmmjaaGreatDoorCards
import Derived.Test.YtkneddlelcmmjaaGreatDoorTie
import Derived.ProofKit
import Derived.JoinedOf
set_option linter.unusedVariables false
set_option linter.unusedSimpArgs false
namespace Go.Proofs.YtkneddlelcmmjaaGreatDoor
open Go.RowKit
set_option maxRecDepth 100000
theorem named6 : Tryz.pinned.checked.prog.funcNamed Rows.actionResultsAreRightRow.func = some 6 := by kernel_rfl
theorem fact6_0 : (Rows.actionResultsAreRightRow.inPlace == Tryz.pinned.checked.prog.inPlace 6) = true := by kernel_rfl
theorem fact6_1 : (Rows.actionResultsAreRightRow.unfollowed == Tryz.pinned.checked.prog.unfollowed 6) = true := by kernel_rfl
theorem fact6_2 : (Rows.actionResultsAreRightRow.recurses == Tryz.pinned.checked.prog.recurses 6) = true := by kernel_rfl
theorem fact6_3 : (Rows.actionResultsAreRightRow.named == Tryz.pinned.checked.prog.varsNamed 6) = true := by kernel_rfl
theorem fact6_4 : (Rows.actionResultsAreRightRow.lifted == Tryz.pinned.checked.prog.liftsFinal) = true := by kernel_rfl
theorem fact6_5 : (Tryz.pinned.checked.prog.make == some Rows.actionResultsAreRightRow.make) = true := by kernel_rfl
theorem closed6 : joinedFacts Tryz.pinned.checked.prog 6 Tryz.f6 Rows.actionResultsAreRightSpec Rows.actionResultsAreRightRow = true := by
 unfold joinedFacts
 rw [fact6_0,fact6_1,fact6_2,fact6_3,fact6_4,fact6_5]
 kernel_rfl
end Go.Proofs.YtkneddlelcmmjaaGreatDoor
