/- The law's function answers true. -/
import Derived.Test.YtnapepffpbbkoaaGreatDoorLmU6
set_option maxRecDepth 100000
namespace Go.Lm
section
variable {R : Type}
theorem cloneL {n : Nat} {xs : List LV} (h : xs.length * n ≤ 140737488355328) (h2 : xs.length ≤ 9223372036854775807) : cloneF n (xs, ()) = some (xs, ()) := by
  unfold cloneF
  rw [Nat.zero_add, decide_eq_true ⟨h, h2⟩]
theorem prog_awake {k : Nat} (hk : Many k) (S : List LV) (K : Bool × Unit → List LV → Option R) : G.smithyardlaw5_awake.fn k () S K = K (true, ()) S := by
  unfold G.smithyardlaw5_awake.fn
  have h := prog_LooksOf (R := R) hk [⟨bs [97], bs [], false⟩] (files := [⟨bs [97], false, bs [], true, fun _ => rfl⟩]) ⟨by decide, by decide, by decide⟩ S
  have e1 : [LV.agg [.str (bs [97]), .str (bs []), .bool false]] = ([⟨bs [97], bs [], false⟩] : List Look).map Look.lv := rfl
  have e2 : [LV.agg [.str (bs [97]), .bool false, .nilsl]] = ([⟨bs [97], false, bs [], true, fun _ => rfl⟩] : List File).map File.lv := rfl
  rw [e1, e2, h]
  dsimp only
  have h1 : checkLooksS [⟨bs [97], bs [], false⟩] = 0 := by decide +kernel
  have h2 : checkFilesS [⟨bs [97], false, bs [], true, fun _ => rfl⟩] = 0 := by decide +kernel
  have h3 : strEq (atS [⟨bs [97], false, bs [], true, fun _ => rfl⟩] (bs [97])).d (bs [99, 98, 102, 50, 57, 99, 101, 52, 56, 52, 50, 50, 50, 51, 50, 53]) = true := by decide +kernel
  have h4 : looksOfS [⟨bs [97], bs [], false⟩] [⟨bs [97], false, bs [], true, fun _ => rfl⟩] = ([atS [⟨bs [97], false, bs [], true, fun _ => rfl⟩] (bs [97])], 0) := by
    unfold looksOfS
    rw [h1, h2]
    rfl
  rw [h4]
  generalize atS [⟨bs [97], false, bs [], true, fun _ => rfl⟩] (bs [97]) = a at h3 ⊢
  dsimp only
  have e3 : (((([a] : List Look).map Look.lv).length : Int) == 1) = true := rfl
  rw [beq_self_eq_true, ifB_true, e3, ifB_true]
  have e4 : ∀ (K' : LV → Option R), idxL (([a] : List Look).map Look.lv) (0 : Int) K' = K' a.lv := fun K' => by
    rw [show (0 : Int) = ((0 : Nat) : Int) from rfl, idxL_nat (by simp)]
    rfl
  rw [e4]
  show asStr (.str _) _ = _
  rw [asStr_str, h3]
end
end Go.Lm
