/- The row of ActionReducedIsEnough holds. -/
import Derived.Test.YtkneddlelcmmjaaGreatDoorCards
import Derived.Test.YtkneddlelcmmjaaGreatDoorTie
import Derived.ProofKit
import Derived.OpenShut
import Derived.LaidMore
import Derived.Lay
import Derived.Lib.LaidTab
import Derived.SevenTiedAt
import Derived.Stop.Joined
import Derived.Shelf.Vars
import Derived.Test.YtkneddlelcmmjaaGreatDoorLmRow18F
import Derived.Test.YtkneddlelcmmjaaGreatDoorLmRow18W
set_option linter.unusedVariables false
set_option linter.unusedSimpArgs false
namespace Go.Proofs.YtkneddlelcmmjaaGreatDoor
open Go.ChangeShapes Go.WideShapes Go.ChangeAt Go.RowKit Go.Lm
theorem holds:Rows.ActionReducedIsEnoughSaid :=
 OpenClaim.holds_of_wide 7 Tryz.f7 rfl rfl rfl rfl rfl rfl rfl ⟨rfl,rfl,rfl,rfl,rfl⟩ rfl rfl rfl rfl rfl named7 Tryz.func7 closed7
  (of_decide_eq_true (by kernel_rfl)) (by unfold Func.isWrapper;first|(rw [if_pos (by decide +kernel)];kernel_rfl)|(rw [if_neg (by decide +kernel)];exact ⟨rfl,rfl⟩))
  (fun os started H enc _=>lifted os started H enc)
theorem cardMain:Tryz.pinned.checked.prog.mainIs=some ((true,"7d92060bfe1cac70a083ed17e971599161d5f57f2382e6256405e2bc845023be").1,(true,"7d92060bfe1cac70a083ed17e971599161d5f57f2382e6256405e2bc845023be").2.toList):=by kernel_rfl
theorem cardLooks:true=Tryz.pinned.checked.prog.looks []:=by kernel_rfl
theorem cardGoes:false=Rows.actionReducedIsEnoughRow.goesBy Tryz.pinned.checked.prog:=by kernel_rfl
end Go.Proofs.YtkneddlelcmmjaaGreatDoor
