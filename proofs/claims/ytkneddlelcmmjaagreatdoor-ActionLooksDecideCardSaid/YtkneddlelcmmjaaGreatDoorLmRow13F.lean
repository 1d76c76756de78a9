/- The closed facts of the row of ActionLooksDecide, one by one. -/
import Derived.Test.YtkneddlelcmmjaaGreatDoorCards
import Derived.Test.YtkneddlelcmmjaaGreatDoorTie
import Derived.ProofKit
import Derived.JoinedOf
set_option linter.unusedVariables false
set_option linter.unusedSimpArgs false
namespace Go.Proofs.YtkneddlelcmmjaaGreatDoor
open Go.RowKit
set_option maxRecDepth 100000
theorem named3 : Tryz.pinned.checked.prog.funcNamed Rows.actionLooksDecideRow.func = some 3 := by kernel_rfl
theorem fact3_0 : (Rows.actionLooksDecideRow.inPlace == Tryz.pinned.checked.prog.inPlace 3) = true := by kernel_rfl
theorem fact3_1 : (Rows.actionLooksDecideRow.unfollowed == Tryz.pinned.checked.prog.unfollowed 3) = true := by kernel_rfl
theorem fact3_2 : (Rows.actionLooksDecideRow.recurses == Tryz.pinned.checked.prog.recurses 3) = true := by kernel_rfl
theorem fact3_3 : (Rows.actionLooksDecideRow.named == Tryz.pinned.checked.prog.varsNamed 3) = true := by kernel_rfl
theorem fact3_4 : (Rows.actionLooksDecideRow.lifted == Tryz.pinned.checked.prog.liftsFinal) = true := by kernel_rfl
theorem fact3_5 : (Tryz.pinned.checked.prog.make == some Rows.actionLooksDecideRow.make) = true := by kernel_rfl
theorem closed3 : joinedFacts Tryz.pinned.checked.prog 3 Tryz.f3 Rows.actionLooksDecideSpec Rows.actionLooksDecideRow = true := by
 unfold joinedFacts
 rw [fact3_0,fact3_1,fact3_2,fact3_3,fact3_4,fact3_5]
 kernel_rfl
end Go.Proofs.YtkneddlelcmmjaaGreatDoor
