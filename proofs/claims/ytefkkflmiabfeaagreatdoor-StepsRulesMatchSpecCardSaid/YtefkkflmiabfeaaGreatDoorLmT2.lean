/- The text of an action: its lines, and what is known of a right action. -/
import Derived.Test.YtefkkflmiabfeaaGreatDoorLmT
import Derived.Test.YtefkkflmiabfeaaGreatDoorLmI
import Derived.Test.YtefkkflmiabfeaaGreatDoorLmOs
import Derived.Lib.ItoaLen
set_option linter.unusedVariables false
set_option linter.unusedSimpArgs false
set_option maxRecDepth 100000
namespace Go.Lm
/-! ### right actions -/
theorem firstE_none {step : Nat → Option Int} : ∀ (d i : Nat), scan (fun i => (step i).map some) (none : Option Int) d i = none → ∀ j, i ≤ j → j < i + d → step j = none
  | 0, _, _, _, _, _ => by omega
  | d + 1, i, h, j, h1, h2 => by
    simp only [scan] at h
    cases hs : step i with
    | some r => rw [hs] at h; cases h
    | none =>
      rw [hs] at h
      by_cases e : j = i
      · subst e; exact hs
      · exact firstE_none d (i + 1) h j (by omega) (by omega)
theorem firstE_some {step : Nat → Option Int} {P : Int → Prop} (hp : ∀ j r, step j = some r → P r) : ∀ (d i : Nat) (e : Int), scan (fun i => (step i).map some) (none : Option Int) d i = some e → P e
  | 0, _, _, h => by cases h
  | d + 1, i, e, h => by
    simp only [scan] at h
    cases hs : step i with
    | some r => rw [hs] at h; cases h; exact hp _ _ hs
    | none => rw [hs] at h; exact firstE_some hp d (i + 1) e h
theorem firstE_zero {step : Nat → Option Int} (hp : ∀ j r, step j = some r → r ≠ 0) {n : Nat} {x : Int} (h : (firstE step n).getD x = 0) : (∀ j, j < n → step j = none) ∧ x = 0 := by
  unfold firstE at h
  cases hs : scan (fun i => (step i).map some) (none : Option Int) n 0 with
  | some e => rw [hs] at h; exact absurd h (firstE_some (P := fun r => r ≠ 0) hp n 0 e hs)
  | none => rw [hs] at h; exact ⟨fun j hj => firstE_none n 0 hs j (Nat.zero_le _) (by omega), h⟩
theorem of_get {α : Type} {l : List α} {z : α} {P : α → Prop} (h : ∀ i, i < l.length → P (l.getD i z)) : ∀ x ∈ l, P x := by
  intro x hx
  obtain ⟨i, hi, rfl⟩ := List.mem_iff_getElem.1 hx
  have := h i hi
  rwa [List.getD_eq_getElem?_getD, List.getElem?_eq_getElem hi] at this
theorem path_len {s : ByteArray} (h : isPathS s = true) : 1 ≤ s.size ∧ s.size ≤ 200 := by
  unfold isPathS at h
  simp only [Bool.and_eq_true, decide_eq_true_eq] at h
  exact ⟨h.1, h.2.1⟩
theorem outs_right {l : List ByteArray} (h : outsS l = 0) : l.length ≤ 100 ∧ ∀ p ∈ l, isPathS p = true := by
  unfold outsS at h
  cases h0 : decide (l.length = 0) with
  | true => rw [h0] at h; cases h
  | false =>
    rw [h0, cond_false] at h
    cases h1 : decide (l.length > 100) with
    | true => rw [h1] at h; cases h
    | false =>
      rw [h1, cond_false] at h
      have a1 := of_decide_eq_false h1
      refine ⟨by omega, of_get (z := bs []) fun i hi => ?_⟩
      have hs : ∀ j r, outS l j = some r → r ≠ 0 := fun j r hj => by
        unfold outS at hj
        cases hb1 : isPathS (l.getD j (bs [])) with
        | false => rw [hb1] at hj; cases hj; decide
        | true =>
          rw [hb1] at hj
          cases hb3 : (decide (0 < j) && (strLt (l.getD j (bs [])) (l.getD (j - 1) (bs [])) || strEq (l.getD j (bs [])) (l.getD (j - 1) (bs [])))) with
          | true => rw [hb3] at hj; cases hj; decide
          | false => rw [hb3] at hj; cases hj
      have h3 := (firstE_zero hs h).1 i hi
      unfold outS at h3
      cases hb1 : isPathS (l.getD i (bs [])) with
      | false => rw [hb1] at h3; cases h3
      | true => rfl
structure ActRight (a : Act) : Prop where
  tool : isDigestS a.tool = true
  cmds : a.cmds.length ≤ 50 ∧ 1 ≤ a.cmds.length
  cmd : ∀ c ∈ a.cmds, cmdS c = 0
  vars : varsS a.vars = 0
  outs : outsS a.outs = 0
  needs : varsS a.needs = 0
  time : 1 ≤ a.time ∧ a.time ≤ 100000
theorem act_right {a : Act} (h : actS a = 0) : ActRight a := by
  unfold actS at h
  cases h1 : isDigestS a.tool with
  | false => rw [h1] at h; cases h
  | true =>
    rw [h1, cond_true] at h
    cases h2 : decide (a.cmds.length = 0) with
    | true => rw [h2] at h; cases h
    | false =>
      rw [h2, cond_false] at h
      cases h3 : decide (a.cmds.length > 50) with
      | true => rw [h3] at h; cases h
      | false =>
        rw [h3, cond_false] at h
        have hs : ∀ j r, cmdAt a.cmds j = some r → r ≠ 0 := fun j r hj => by
          unfold cmdAt at hj
          cases hb : cmdS (a.cmds.getD j []) == 0 with
          | true => rw [hb] at hj; cases hj
          | false => rw [hb] at hj; cases hj; exact fun e => by rw [e] at hb; cases hb
        obtain ⟨h4, h5⟩ := firstE_zero hs h
        have a2 := of_decide_eq_false h2
        have a3 := of_decide_eq_false h3
        have hc : ∀ c ∈ a.cmds, cmdS c = 0 := of_get (z := []) fun i hi => by
          have := h4 i hi
          unfold cmdAt at this
          cases hb : cmdS (a.cmds.getD i []) == 0 with
          | true => exact eq_of_beq hb
          | false => rw [hb] at this; cases this
        cases h6 : varsS a.vars == 0 with
        | false => rw [h6, cond_false] at h5; rw [h5] at h6; cases h6
        | true =>
          rw [h6, cond_true] at h5
          cases h7 : outsS a.outs == 0 with
          | false => rw [h7, cond_false] at h5; rw [h5] at h7; cases h7
          | true =>
            rw [h7, cond_true] at h5
            cases h8 : varsS a.needs == 0 with
            | false => rw [h8, cond_false] at h5; rw [h5] at h8; cases h8
            | true =>
              rw [h8, cond_true] at h5
              cases h9 : decide (1 ≤ a.time) && decide (a.time ≤ 100000) with
              | false => rw [h9] at h5; cases h5
              | true =>
                simp only [Bool.and_eq_true, decide_eq_true_eq] at h9
                exact ⟨h1, ⟨by omega, by omega⟩, hc, eq_of_beq h6, eq_of_beq h7, eq_of_beq h8, h9⟩
/-! ### the text -/
section
variable {R : Type}
end
end Go.Lm

/- The text of an action, as the program and as the reference write it. -/
set_option maxRecDepth 100000
namespace Go.Lm
section
variable {R : Type}
end
end Go.Lm

/- The reference's text of an action, copies, and the law of checks. -/
set_option maxRecDepth 100000
namespace Go.Lm
section
variable {R : Type}
/-! ### copies -/
structure ActFit (a : Act) : Prop where
  cmds : a.cmds.length * 24 ≤ 140737488351232
  cmd : ∀ c ∈ a.cmds, c.length * 16 ≤ 140737488351232
  vars : a.vars.length * 32 ≤ 140737488351232
  outs : a.outs.length * 16 ≤ 140737488351232
  needs : a.needs.length * 32 ≤ 140737488351232
theorem cloneL5 {n : Nat} {xs : List LV} (h : xs.length * n ≤ 140737488351232) (hn : 1 ≤ n) : cloneF n (xs, ()) = some (xs, ()) := by
  have := Nat.mul_le_mul_left xs.length hn
  exact cloneL (by omega) (by omega)
theorem clone_str (k : Nat) (l : List LV) (h : l.length * 16 ≤ 140737488351232) (S : List LV) (K : List LV × Unit → List LV → Option R) : G.slices_Clone_s_string_string_c.fn k (l, ()) S K = K (l, ()) S := by
  unfold G.slices_Clone_s_string_string_c.fn handF
  rw [cloneL5 h (by decide)]
theorem clone_var (k : Nat) (l : List LV) (h : l.length * 32 ≤ 140737488351232) (S : List LV) (K : List LV × Unit → List LV → Option R) : G.slices_Clone_s_api_Var_api_Var_c.fn k (l, ()) S K = K (l, ()) S := by
  unfold G.slices_Clone_s_api_Var_api_Var_c.fn handF
  rw [cloneL5 h (by decide)]
theorem ref_CopyAction {k : Nat} (hk : Many k) (a : Act) (ft : ActFit a) (S : List LV) (K : ActT × Unit → List LV → Option R) : G.smithyardref5_CopyAction.fn k (a.tup, ()) S K = K (a.tup, ()) S := by
  have hk' := hk
  unfold Many at hk'
  have h1 := ft.cmds
  have h2 := ft.vars
  have h3 := ft.outs
  have h4 := ft.needs
  unfold G.smithyardref5_CopyAction.fn
  refine Eq.trans (rounds_scan0 (fun i => (a.tup, zT, (a.cmds.take i).map cmdL, (i : Int), ())) S a.cmds.length k (fun _ => none) (K (a.tup, ()) S) (fun rec i hi => ?_) (fun rec => ?_) (by omega)) (scan_none _ _ (fun _ _ _ => rfl))
  · unfold G.smithyardref5_CopyAction.b0 Act.tup
    dsimp only
    have hi2 : i < (a.cmds.map cmdL).length := by rw [List.length_map]; exact hi
    have hc := ft.cmd _ (mem_get (z := []) hi)
    have hlt : ((a.cmds.take i).map cmdL).length = i := by rw [List.length_map, List.length_take]; omega
    have e : ((a.cmds.take i).map cmdL) ++ [.sl 1 ((a.cmds.getD i []).map .str)] = (a.cmds.take (i + 1)).map cmdL := by
      rw [List.take_succ_eq_append_getElem hi, List.map_append, List.getD_eq_getElem?_getD, List.getElem?_eq_getElem hi]; rfl
    rw [List.length_map, lt_nat, ifB_pos hi, idxL_nat hi2, cmd_get _ _ hi, cmdL_at, clone_str k _ (by rw [List.length_map]; exact hc)]
    dsimp only
    rw [app_le (by rw [hlt]; simp only [List.length_cons, List.length_nil]; omega) (by rw [hlt]; simp only [List.length_cons, List.length_nil]; omega), e, wrap_succ (by omega)]
  · unfold G.smithyardref5_CopyAction.b0 Act.tup
    dsimp only
    rw [List.length_map, lt_nat, ifB_neg (Nat.lt_irrefl _), clone_var k _ (by rw [List.length_map]; exact h2)]
    dsimp only
    rw [clone_var k _ (by rw [List.length_map]; exact h4)]
    dsimp only
    rw [clone_str k _ (by rw [List.length_map]; exact h3), List.take_of_length_le (Nat.le_refl _)]
theorem fit_len {a : Act} (ft : ActFit a) : ActLen a 140737488355328 := ⟨by have := ft.cmds; omega, by have := ft.vars; omega, by have := ft.outs; omega, by have := ft.needs; omega⟩
end
end Go.Lm
