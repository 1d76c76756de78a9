/- The closed facts of the row of ActionReducedIsEnough, one by one. -/
import Derived.Test.YtkneddlelcmmjaaGreatDoorCards
import Derived.Test.YtkneddlelcmmjaaGreatDoorTie
import Derived.ProofKit
import Derived.JoinedOf
set_option linter.unusedVariables false
set_option linter.unusedSimpArgs false
namespace Go.Proofs.YtkneddlelcmmjaaGreatDoor
open Go.RowKit
set_option maxRecDepth 100000
theorem named7:Tryz.pinned.checked.prog.funcNamed Rows.actionReducedIsEnoughRow.func=some 7:=by kernel_rfl
theorem fact7_0:(Rows.actionReducedIsEnoughRow.inPlace==Tryz.pinned.checked.prog.inPlace 7)=true:=by kernel_rfl
theorem fact7_1:(Rows.actionReducedIsEnoughRow.unfollowed==Tryz.pinned.checked.prog.unfollowed 7)=true:=by kernel_rfl
theorem fact7_2:(Rows.actionReducedIsEnoughRow.recurses==Tryz.pinned.checked.prog.recurses 7)=true:=by kernel_rfl
theorem fact7_3:(Rows.actionReducedIsEnoughRow.named==Tryz.pinned.checked.prog.varsNamed 7)=true:=by kernel_rfl
theorem fact7_4:(Rows.actionReducedIsEnoughRow.lifted==Tryz.pinned.checked.prog.liftsFinal)=true:=by kernel_rfl
theorem fact7_5:(Tryz.pinned.checked.prog.make==some Rows.actionReducedIsEnoughRow.make)=true:=by kernel_rfl
theorem closed7:joinedFacts Tryz.pinned.checked.prog 7 Tryz.f7 Rows.actionReducedIsEnoughSpec Rows.actionReducedIsEnoughRow=true:=by
 unfold joinedFacts
 rw [fact7_0,fact7_1,fact7_2,fact7_3,fact7_4,fact7_5]
 kernel_rfl
end Go.Proofs.YtkneddlelcmmjaaGreatDoor
