/- For every action and all files that come in, the law ActionReducedIsEnough answers true and leaves them as they were. Conditions: the row's own (what comes in fits its type, each list and string within the model's size, the listed library variables start as the text lays them); the card ties those variables to the pruned copy of the project. -/
import Derived.Test.YtkneddlelcmmjaaGreatDoorCards
import Derived.Test.YtkneddlelcmmjaaGreatDoorTie
import Derived.ProofKit
import Derived.OpenShut
import Derived.LaidMore
import Derived.Lay
import Derived.Lib.LaidTab
import Derived.SevenTiedAt
import Derived.Stop.Joined
import Derived.Shelf.Vars
import Derived.Test.YtkneddlelcmmjaaGreatDoorLmRow18F
import Derived.Test.YtkneddlelcmmjaaGreatDoorLmRow18Y
set_option linter.unusedVariables false
set_option linter.unusedSimpArgs false
namespace Go.Proofs.YtkneddlelcmmjaaGreatDoor
open Go.ChangeShapes Go.WideShapes Go.ChangeAt Go.RowKit Go.Lm
theorem card_holds:Rows.ActionReducedIsEnoughCardSaid :=
 Claim7.holds_tied_plain_at .later [] [.data,.data,.data,.data,.sentinel,.sentinel,.pinned] true (true,"7d92060bfe1cac70a083ed17e971599161d5f57f2382e6256405e2bc845023be") true holds (fun _ h=>by cases h) (by kernel_rfl) (fun _ h=>by cases h) actionReducedIsEnough_row_tie rfl ⟨rfl,rfl⟩ cardMain rfl
  (fun f fn hf hfn=>by
   obtain rfl:f=7:=Option.some.inj ((show Tryz.prog.funcNamed "smithyard/smithyardlaw5.ActionReducedIsEnough" = some 7 from named7).symm.trans hf) |>.symm
   obtain rfl:fn=Tryz.f7:=(Option.some.inj (Tryz.func7.symm.trans hfn)).symm
   exact ⟨cardLooks,fun j t ht=>by
    rw [Tryz.params7] at ht
    have hm:t∈[26,27]:=by simpa using Array.mem_of_getElem? ht
    have hall:([26,27].all fun u=>!Tryz.prog.wantsStandIn u)=true:=by kernel_rfl
    exact (show Tryz.prog.wantsStandIn t=false by simpa using List.all_eq_true.1 hall t hm)⟩)
  cardGoes
#print axioms card_holds
end Go.Proofs.YtkneddlelcmmjaaGreatDoor
