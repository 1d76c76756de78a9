/- Actions compared, and the law of reading. -/
import Derived.Test.YtnapepffpbbkoaaGreatDoorLmO7
import Derived.Test.YtnapepffpbbkoaaGreatDoorLmU7
set_option maxRecDepth 100000
namespace Go.Lm
section
variable {R : Type}
theorem strEq_refl (s : ByteArray) : strEq s s = true := (strEq_iff _ _).2 rfl
theorem ref_sameWords {k : Nat} (hk : Many k) (l : List ByteArray) (hl : l.length ≤ 140737488355328) (S : List LV) (K : Bool × Unit → List LV → Option R) : G.smithyardref5_sameWords.fn k (l.map .str, l.map .str, ()) S K = K (true, ()) S := by
  unfold Many at hk
  unfold G.smithyardref5_sameWords.fn
  dsimp only
  rw [show (((l.map LV.str).length : Int) != ((l.map LV.str).length : Int)) = false by rw [bne_self_eq_false], ifB_false]
  refine Eq.trans (rounds_scan0 (fun i => (l.map LV.str, l.map LV.str, (i : Int), ())) S l.length k (fun _ => none) (K (true, ()) S) (fun rec i hi => ?_) (fun rec => ?_) (by omega)) ?_
  · unfold G.smithyardref5_sameWords.b0
    dsimp only
    rw [List.length_map, lt_nat, ifB_pos hi]
    simp only [idxL_nat (show i < (l.map LV.str).length by simpa using hi), map_str_get l i hi, asLeaf_str, strEq_refl, wrap_succ (show i < 9223372036854775807 by omega)]
    rfl
  · unfold G.smithyardref5_sameWords.b0
    dsimp only
    rw [List.length_map, lt_nat, ifB_neg (Nat.lt_irrefl _)]
  · exact scan_none _ _ (fun _ _ _ => rfl)
theorem ref_SameAction {k : Nat} (hk : Many k) (a : Act) {n : Nat} (hl : ActLen a n) (hn : n ≤ 140737488355328) (hc : ∀ c ∈ a.cmds, c.length ≤ 140737488355328) (S : List LV) (K : Bool × Unit → List LV → Option R) : G.smithyardref5_SameAction.fn k (a.tup, a.tup, ()) S K = K (true, ()) S := by
  have hk' := hk
  unfold Many at hk'
  have l1 := hl.cmds
  have l2 := hl.vars
  have l3 := hl.outs
  have l4 := hl.needs
  unfold G.smithyardref5_SameAction.fn G.smithyardref5_SameAction.q0 G.smithyardref5_SameAction.q1
  unfold Act.tup
  dsimp only
  simp only [bne_self_eq_false, ifB_false]
  refine Eq.trans (rounds_scan0 (fun i => (a.tup, a.tup, (i : Int), ())) S a.cmds.length k (fun _ => none) (K (true, ()) S) (fun rec i hi => ?_) (fun rec => ?_) (by omega)) ?_
  · unfold G.smithyardref5_SameAction.b0 Act.tup
    dsimp only
    rw [List.length_map, lt_nat, ifB_pos hi]
    simp only [idxL_nat (show i < (a.cmds.map cmdL).length by simpa using hi), cmd_get _ _ hi, cmdL_at, ref_sameWords hk _ (hc _ (mem_get hi)), wrap_succ (show i < 9223372036854775807 by omega)]
    rfl
  · unfold G.smithyardref5_SameAction.b0 Act.tup
    dsimp only
    rw [List.length_map, lt_nat, ifB_neg (Nat.lt_irrefl _)]
    refine Eq.trans (rounds_scan0 (fun i => (a.tup, a.tup, (i : Int), ())) S a.vars.length k (fun _ => none) (K (true, ()) S) (fun rec i hi => ?_) (fun rec => ?_) (by omega)) ?_
    · unfold G.smithyardref5_SameAction.b1 Act.tup
      dsimp only
      rw [List.length_map, lt_nat, ifB_pos hi]
      simp only [idxL_nat (show i < (a.vars.map varL).length by simpa using hi), var_get _ _ hi, varL_mat, List.getD_cons_zero, List.getD_cons_succ, asStr_str, strEq_refl, wrap_succ (show i < 9223372036854775807 by omega)]
      rfl
    · unfold G.smithyardref5_SameAction.b1 Act.tup
      dsimp only
      rw [List.length_map, lt_nat, ifB_neg (Nat.lt_irrefl _)]
      refine Eq.trans (rounds_scan0 (fun i => (a.tup, a.tup, (i : Int), ())) S a.needs.length k (fun _ => none) (K (true, ()) S) (fun rec i hi => ?_) (fun rec => ?_) (by omega)) ?_
      · unfold G.smithyardref5_SameAction.b2 Act.tup
        dsimp only
        rw [List.length_map, lt_nat, ifB_pos hi]
        simp only [idxL_nat (show i < (a.needs.map varL).length by simpa using hi), var_get _ _ hi, varL_mat, List.getD_cons_zero, List.getD_cons_succ, asStr_str, strEq_refl, wrap_succ (show i < 9223372036854775807 by omega)]
        rfl
      · unfold G.smithyardref5_SameAction.b2 Act.tup
        dsimp only
        rw [List.length_map, lt_nat, ifB_neg (Nat.lt_irrefl _)]
        rw [strEq_refl, ifB_true, beq_self_eq_true, ifB_true, ref_sameWords hk _ (by omega)]
      · exact scan_none _ _ (fun _ _ _ => rfl)
    · exact scan_none _ _ (fun _ _ _ => rfl)
  · exact scan_none _ _ (fun _ _ _ => rfl)
theorem readA_cmds : ∀ (n : Nat) (text : ByteArray) (a : Act) (last at_ : Nat) (r : Act × Nat × Nat), text.size ≤ 2000000 → (∀ c ∈ a.cmds, c.length ≤ 2000001) → readA n text a last at_ = .ok r → ∀ c ∈ r.1.cmds, c.length ≤ 2000001
  | 0, _, _, _, _, _, _, _, h => by cases h
  | n + 1, text, a, last, at_, r, hz, hc, h => by
    unfold readA at h
    cases he : strEq text (bs []) with
    | true =>
      rw [he] at h
      cases h
      exact hc
    | false =>
      rw [he, cond_false] at h
      cases hb : ((cutB 10 text).2.2.1 && lineOk last (cutB 10 text).1) with
      | false => rw [hb] at h; cases h
      | true =>
        rw [hb, cond_true] at h
        have h1 := cutB_size 10 text
        have h2 := cutB_size 32 (cutB 10 text).1
        refine readA_cmds n _ _ _ _ r (by omega) ?_ h
        have hs := splitW_len 32 (cutB 32 (cutB 10 text).1).2.1
        unfold putA
        split
        · exact hc
        · intro c hcm
          rcases List.mem_append.1 hcm with h3 | h3
          · exact hc c h3
          · rw [List.mem_singleton.1 h3]; omega
        · exact hc
        · exact hc
        · exact hc
        · exact hc
theorem readActS_len (s : ByteArray) : ActLen (readActS s).1 2000000 ∧ ∀ c ∈ (readActS s).1.cmds, c.length ≤ 140737488355328 := by
  have hzero : ActLen Act.zero 2000000 ∧ ∀ c ∈ Act.zero.cmds, c.length ≤ 140737488355328 := ⟨⟨by decide, by decide, by decide, by decide⟩, fun c h => by cases h⟩
  unfold readActS
  cases hc : decide (s.size > 2000000) with
  | true => exact hzero
  | false =>
    have hs : s.size ≤ 2000000 := by have := of_decide_eq_false hc; omega
    rw [cond_false]
    cases hr : readA (s.size + 1) s .zero 0 0 with
    | error e => exact hzero
    | ok r =>
      obtain ⟨_, _, h3, _⟩ := readA_ok _ _ _ _ _ r zero_len zero_ok (by omega) (by omega) hr
      have h4 := readA_cmds _ _ _ _ _ r hs (fun c h => by cases h) hr
      obtain ⟨a, last, at_⟩ := r
      unfold readEnd
      dsimp only
      cases decide (last = 6) with
      | false => exact hzero
      | true =>
        rw [cond_true]
        cases actS a == 0 with
        | false => exact hzero
        | true => exact ⟨h3, fun c hcm => Nat.le_trans (h4 c hcm) (by decide)⟩
theorem law5 {k : Nat} (hk : Many k) (s : ByteArray) (S : List LV) (he : HasErr S H.errG) (hg : HasErr S H.rngG) (K : Bool × Unit → List LV → Option R) :
    G.smithyardlaw5_ActionReadsMatchSpec.fn k (s, ()) S K = K (true, ()) S := by
  unfold G.smithyardlaw5_ActionReadsMatchSpec.fn
  dsimp only
  rw [prog_Read hk s S he hg]
  dsimp only
  rw [ref_Read hk]
  dsimp only
  obtain ⟨h1, h2⟩ := readActS_len s
  show G.smithyardref5_SameAction.fn k ((readActS s).1.tup, (readActS s).1.tup, ()) S _ = _
  rw [ref_SameAction hk _ h1 (by decide) h2]
  dsimp only
  rw [ifB_true, beq_self_eq_true, ifB_true, beq_self_eq_true, ifB_true, prog_awake hk]
end
end Go.Lm
