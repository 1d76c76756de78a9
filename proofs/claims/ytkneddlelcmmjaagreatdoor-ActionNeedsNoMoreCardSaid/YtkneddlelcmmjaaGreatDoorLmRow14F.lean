/- The closed facts of the row of ActionNeedsNoMore, one by one. -/
import Derived.Test.YtkneddlelcmmjaaGreatDoorCards
import Derived.Test.YtkneddlelcmmjaaGreatDoorTie
import Derived.ProofKit
import Derived.JoinedOf
set_option linter.unusedVariables false
set_option linter.unusedSimpArgs false
namespace Go.Proofs.YtkneddlelcmmjaaGreatDoor
open Go.RowKit
set_option maxRecDepth 100000
theorem named4 : Tryz.pinned.checked.prog.funcNamed Rows.actionNeedsNoMoreRow.func = some 4 := by kernel_rfl
theorem fact4_0 : (Rows.actionNeedsNoMoreRow.inPlace == Tryz.pinned.checked.prog.inPlace 4) = true := by kernel_rfl
theorem fact4_1 : (Rows.actionNeedsNoMoreRow.unfollowed == Tryz.pinned.checked.prog.unfollowed 4) = true := by kernel_rfl
theorem fact4_2 : (Rows.actionNeedsNoMoreRow.recurses == Tryz.pinned.checked.prog.recurses 4) = true := by kernel_rfl
theorem fact4_3 : (Rows.actionNeedsNoMoreRow.named == Tryz.pinned.checked.prog.varsNamed 4) = true := by kernel_rfl
theorem fact4_4 : (Rows.actionNeedsNoMoreRow.lifted == Tryz.pinned.checked.prog.liftsFinal) = true := by kernel_rfl
theorem fact4_5 : (Tryz.pinned.checked.prog.make == some Rows.actionNeedsNoMoreRow.make) = true := by kernel_rfl
theorem closed4 : joinedFacts Tryz.pinned.checked.prog 4 Tryz.f4 Rows.actionNeedsNoMoreSpec Rows.actionNeedsNoMoreRow = true := by
 unfold joinedFacts
 rw [fact4_0,fact4_1,fact4_2,fact4_3,fact4_4,fact4_5]
 kernel_rfl
end Go.Proofs.YtkneddlelcmmjaaGreatDoor
