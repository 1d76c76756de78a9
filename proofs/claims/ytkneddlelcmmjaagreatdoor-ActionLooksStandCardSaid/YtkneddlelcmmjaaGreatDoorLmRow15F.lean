/- The closed facts of the row of ActionLooksStand, one by one. -/
import Derived.Test.YtkneddlelcmmjaaGreatDoorCards
import Derived.Test.YtkneddlelcmmjaaGreatDoorTie
import Derived.ProofKit
import Derived.JoinedOf
set_option linter.unusedVariables false
set_option linter.unusedSimpArgs false
namespace Go.Proofs.YtkneddlelcmmjaaGreatDoor
open Go.RowKit
set_option maxRecDepth 100000
theorem named5 : Tryz.pinned.checked.prog.funcNamed Rows.actionLooksStandRow.func = some 5 := by kernel_rfl
theorem fact5_0 : (Rows.actionLooksStandRow.inPlace == Tryz.pinned.checked.prog.inPlace 5) = true := by kernel_rfl
theorem fact5_1 : (Rows.actionLooksStandRow.unfollowed == Tryz.pinned.checked.prog.unfollowed 5) = true := by kernel_rfl
theorem fact5_2 : (Rows.actionLooksStandRow.recurses == Tryz.pinned.checked.prog.recurses 5) = true := by kernel_rfl
theorem fact5_3 : (Rows.actionLooksStandRow.named == Tryz.pinned.checked.prog.varsNamed 5) = true := by kernel_rfl
theorem fact5_4 : (Rows.actionLooksStandRow.lifted == Tryz.pinned.checked.prog.liftsFinal) = true := by kernel_rfl
theorem fact5_5 : (Tryz.pinned.checked.prog.make == some Rows.actionLooksStandRow.make) = true := by kernel_rfl
theorem closed5 : joinedFacts Tryz.pinned.checked.prog 5 Tryz.f5 Rows.actionLooksStandSpec Rows.actionLooksStandRow = true := by
 unfold joinedFacts
 rw [fact5_0,fact5_1,fact5_2,fact5_3,fact5_4,fact5_5]
 kernel_rfl
end Go.Proofs.YtkneddlelcmmjaaGreatDoor
