/- Actions compared. -/
import Derived.Test.YtefkkflmiabfeaaGreatDoorLmO
import Derived.Test.YtefkkflmiabfeaaGreatDoorLmU
set_option linter.unusedVariables false
set_option linter.unusedSimpArgs false
set_option maxRecDepth 100000
namespace Go.Lm
section
variable {R : Type}
theorem strEq_refl (s : ByteArray) : strEq s s = true := (strEq_iff _ _).2 rfl
theorem ref_sameWords {k : Nat} (hk : Many k) (l : List ByteArray) (hl : l.length ≤ 140737488355328) (S : List LV) (K : Bool × Unit → List LV → Option R) : G.smithyardref5_sameWords.fn k (l.map .str, l.map .str, ()) S K = K (true, ()) S := by
  unfold Many at hk
  unfold G.smithyardref5_sameWords.fn
  dsimp only
  rw [show (((l.map LV.str).length : Int) != ((l.map LV.str).length : Int)) = false by rw [bne_self_eq_false], ifB_false]
  refine Eq.trans (rounds_scan0 (fun i => (l.map LV.str, l.map LV.str, (i : Int), ())) S l.length k (fun _ => none) (K (true, ()) S) (fun rec i hi => ?_) (fun rec => ?_) (by omega)) ?_
  · unfold G.smithyardref5_sameWords.b0
    dsimp only
    rw [List.length_map, lt_nat, ifB_pos hi]
    simp only [idxL_nat (show i < (l.map LV.str).length by simpa using hi), map_str_get l i hi, asLeaf_str, strEq_refl, wrap_succ (show i < 9223372036854775807 by omega)]
    rfl
  · unfold G.smithyardref5_sameWords.b0
    dsimp only
    rw [List.length_map, lt_nat, ifB_neg (Nat.lt_irrefl _)]
  · exact scan_none _ _ (fun _ _ _ => rfl)
theorem ref_SameAction {k : Nat} (hk : Many k) (a : Act) {n : Nat} (hl : ActLen a n) (hn : n ≤ 140737488355328) (hc : ∀ c ∈ a.cmds, c.length ≤ 140737488355328) (S : List LV) (K : Bool × Unit → List LV → Option R) : G.smithyardref5_SameAction.fn k (a.tup, a.tup, ()) S K = K (true, ()) S := by
  have hk' := hk
  unfold Many at hk'
  have l1 := hl.cmds
  have l2 := hl.vars
  have l3 := hl.outs
  have l4 := hl.needs
  unfold G.smithyardref5_SameAction.fn G.smithyardref5_SameAction.q0 G.smithyardref5_SameAction.q1
  unfold Act.tup
  dsimp only
  simp only [bne_self_eq_false, ifB_false]
  refine Eq.trans (rounds_scan0 (fun i => (a.tup, a.tup, (i : Int), ())) S a.cmds.length k (fun _ => none) (K (true, ()) S) (fun rec i hi => ?_) (fun rec => ?_) (by omega)) ?_
  · unfold G.smithyardref5_SameAction.b0 Act.tup
    dsimp only
    rw [List.length_map, lt_nat, ifB_pos hi]
    simp only [idxL_nat (show i < (a.cmds.map cmdL).length by simpa using hi), cmd_get _ _ hi, cmdL_at, ref_sameWords hk _ (hc _ (mem_get hi)), wrap_succ (show i < 9223372036854775807 by omega)]
    rfl
  · unfold G.smithyardref5_SameAction.b0 Act.tup
    dsimp only
    rw [List.length_map, lt_nat, ifB_neg (Nat.lt_irrefl _)]
    refine Eq.trans (rounds_scan0 (fun i => (a.tup, a.tup, (i : Int), ())) S a.vars.length k (fun _ => none) (K (true, ()) S) (fun rec i hi => ?_) (fun rec => ?_) (by omega)) ?_
    · unfold G.smithyardref5_SameAction.b1 Act.tup
      dsimp only
      rw [List.length_map, lt_nat, ifB_pos hi]
      simp only [idxL_nat (show i < (a.vars.map varL).length by simpa using hi), var_get _ _ hi, varL_mat, List.getD_cons_zero, List.getD_cons_succ, asStr_str, strEq_refl, wrap_succ (show i < 9223372036854775807 by omega)]
      rfl
    · unfold G.smithyardref5_SameAction.b1 Act.tup
      dsimp only
      rw [List.length_map, lt_nat, ifB_neg (Nat.lt_irrefl _)]
      refine Eq.trans (rounds_scan0 (fun i => (a.tup, a.tup, (i : Int), ())) S a.needs.length k (fun _ => none) (K (true, ()) S) (fun rec i hi => ?_) (fun rec => ?_) (by omega)) ?_
      · unfold G.smithyardref5_SameAction.b2 Act.tup
        dsimp only
        rw [List.length_map, lt_nat, ifB_pos hi]
        simp only [idxL_nat (show i < (a.needs.map varL).length by simpa using hi), var_get _ _ hi, varL_mat, List.getD_cons_zero, List.getD_cons_succ, asStr_str, strEq_refl, wrap_succ (show i < 9223372036854775807 by omega)]
        rfl
      · unfold G.smithyardref5_SameAction.b2 Act.tup
        dsimp only
        rw [List.length_map, lt_nat, ifB_neg (Nat.lt_irrefl _)]
        rw [strEq_refl, ifB_true, beq_self_eq_true, ifB_true, ref_sameWords hk _ (by omega)]
      · exact scan_none _ _ (fun _ _ _ => rfl)
    · exact scan_none _ _ (fun _ _ _ => rfl)
  · exact scan_none _ _ (fun _ _ _ => rfl)
end
end Go.Lm
