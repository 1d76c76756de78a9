/- Words joined by blanks. -/
import Derived.Test.YtnapepffpbbkoaaGreatDoorLmO
import Derived.Test.YtnapepffpbbkoaaGreatDoorLmR5
import Derived.Test.YtnapepffpbbkoaaGreatDoorLmX3
import Derived.Test.YtnapepffpbbkoaaGreatDoorLmI
import Derived.Test.YtnapepffpbbkoaaGreatDoorLmO
import Derived.Lib.ItoaLen
set_option maxRecDepth 100000
namespace Go.Lm
section
variable {R : Type}
theorem joinL_snoc (c : UInt8) (x : Bs) : ∀ (l : List Bs), l ≠ [] → joinL c (l ++ [x]) = joinL c l ++ c :: x
  | [], h => absurd rfl h
  | [w], _ => rfl
  | w :: v :: l, _ => by
    have ih := joinL_snoc c x (v :: l) (by simp)
    rw [List.cons_append, joinL_cons c w (by simp), ih, joinL_cons c w (by simp)]
    simp
def joinS (ws : List ByteArray) : ByteArray := ofL (joinL 32 (ws.map toL))
def accJ (w : ByteArray) (l : List ByteArray) : Nat → ByteArray
  | 0 => w
  | i + 1 => (accJ w l i ++ bs [32]) ++ l.getD i (bs [])
theorem accJ_L (w : ByteArray) (l : List ByteArray) : ∀ i, i ≤ l.length → toL (accJ w l i) = joinL 32 ((w :: l.take i).map toL)
  | 0, _ => by
    simp only [List.take_zero]; rfl
  | i + 1, h => by
    have ih := accJ_L w l i (by omega)
    unfold accJ
    have e2 : (w :: (l.take i ++ [l[i]'(by omega)])).map toL = (w :: l.take i).map toL ++ [toL (l[i]'(by omega))] := by
      rw [← List.cons_append, List.map_append]; rfl
    rw [toL_app, toL_app, ih, List.take_succ_eq_append_getElem (by omega), e2, joinL_snoc 32 _ _ (by simp), List.getD_eq_getElem?_getD, List.getElem?_eq_getElem (by omega)]
    show _ ++ [32] ++ _ = _
    rw [List.append_assoc]; rfl
theorem accJ_all (w : ByteArray) (l : List ByteArray) : accJ w l l.length = joinS (w :: l) := by
  apply toL_inj
  rw [accJ_L w l _ (Nat.le_refl _), List.take_of_length_le (Nat.le_refl _)]
  rfl
theorem accJ_size (w : ByteArray) (l : List ByteArray) (hw : w.size ≤ 100000) (hl : ∀ x ∈ l, x.size ≤ 100000) : ∀ i, i ≤ l.length → (accJ w l i).size ≤ 100000 + i * 100001
  | 0, _ => by unfold accJ; omega
  | i + 1, h => by
    have ih := accJ_size w l hw hl i (by omega)
    have := get_size hl i (by omega)
    have e : (bs [32]).size = 1 := rfl
    unfold accJ
    rw [ByteArray.size_append, ByteArray.size_append, e]
    omega
theorem accJ_pos (w : ByteArray) (l : List ByteArray) : ∀ i, 0 < i → 0 < (accJ w l i).size
  | 0, h => by omega
  | i + 1, _ => by
    have e : (bs [32]).size = 1 := rfl
    unfold accJ
    rw [ByteArray.size_append, ByteArray.size_append, e]
    omega
def sumW (ws : List ByteArray) : Nat → Nat
  | 0 => 0
  | i + 1 => sumW ws i + (ws.getD i (bs [])).size
theorem sumW_le (ws : List ByteArray) (hs : ∀ x ∈ ws, x.size ≤ 100000) : ∀ i, i ≤ ws.length → sumW ws i ≤ i * 100000
  | 0, _ => Nat.zero_le _
  | i + 1, h => by
    have ih := sumW_le ws hs i (by omega)
    have := get_size hs i (by omega)
    unfold sumW
    omega
theorem Grow_at (k : Nat) (S : List LV) (n : Int) (h0 : 0 < n) (h1 : n ≤ 140737488355328) (K : Unit → List LV → Option R) : H.Grow.fn k ((S.length, 0), n, ()) (bldS S none) K = K () (bldS S (some (bs []))) := by
  unfold H.Grow.fn growF
  have e : (bldS S none).getD S.length .any = .obj H.builderT [.nilp, .nilsl] := by
    show (S ++ [_]).getD S.length .any = _
    rw [get_last]; rfl
  dsimp only
  rw [e]
  dsimp only
  rw [show (Nat.beq H.builderT H.builderT && (Nat.beq 0 0 && decide (0 < n ∧ n ≤ 140737488355328))) = true by rw [decide_eq_true ⟨h0, h1⟩]; rfl]
  dsimp only
  show K () ((S ++ [_]).set S.length _) = _
  rw [set_last]
  rfl
theorem bs_nil_app (w : ByteArray) : bs [] ++ w = w := toL_inj (by rw [toL_app]; rfl)
theorem joinS_one (w : ByteArray) : joinS [w] = w := by
  unfold joinS
  show ofL (toL w) = w
  rw [ofL_toL]
theorem Join_two {k : Nat} (hk : Many k) (w v : ByteArray) (l : List ByteArray) (hl : (w :: v :: l).length ≤ 1000) (hs : ∀ x ∈ w :: v :: l, x.size ≤ 100000) (S : List LV) (K : ByteArray × Unit → List LV → Option R) :
    G.strings_Join.fn0 k ((w :: v :: l).map .str, bs [32], ()) S K = K (joinS (w :: v :: l), ()) (S ++ [.any]) := by
  have hk' := hk
  unfold Many at hk'
  have hws : (w :: v :: l).length = l.length + 2 := rfl
  unfold G.strings_Join.fn0 G.strings_Join.q0 G.strings_Join.q1
  dsimp only
  have hlen : (((w :: v :: l).map LV.str).length : Int) = ((l.length + 2 : Nat) : Int) := by rw [List.length_map, hws]
  have e1 : ((bs [32]).size : Int) = 1 := rfl
  have hsub : IntKind.wrap .i64 (((l.length + 2 : Nat) : Int) - 1) = ((l.length + 1 : Nat) : Int) := by rw [wrap_id (by omega) (by omega)]; omega
  rw [hlen, e1, show (((l.length + 2 : Nat) : Int) == 0) = false by rw [beq_eq_false_iff_ne]; omega, show (((l.length + 2 : Nat) : Int) == 1) = false by rw [beq_eq_false_iff_ne]; omega, hsub]
  have hdiv : Int.tdiv 9223372036854775807 ((l.length + 1 : Nat) : Int) = ((9223372036854775807 / (l.length + 1) : Nat) : Int) := rfl
  have hd1 : 9223372036854775807 / 1001 ≤ 9223372036854775807 / (l.length + 1) := Nat.div_le_div_left (by omega) (by omega)
  have hd2 : 9223372036854775807 / (l.length + 1) ≤ 9223372036854775807 := Nat.div_le_self _ _
  have hq : 2 ≤ 9223372036854775807 / (l.length + 1) := by omega
  rw [hdiv, ifB_false, ifB_false, ifB_pos (show (1 : Int) > 0 by decide), ifB_neg (show ¬ ((l.length + 1 : Nat) : Int) = 0 by omega), wrap_id (n := ((9223372036854775807 / (l.length + 1) : Nat) : Int)) (by omega) (by omega), ifB_neg (show ¬ (1 : Int) ≥ ((9223372036854775807 / (l.length + 1) : Nat) : Int) by omega)]
  have hn0 : IntKind.wrap .i64 (0 + IntKind.wrap .i64 (1 * ((l.length + 1 : Nat) : Int))) = ((l.length + 1 + sumW (w :: v :: l) 0 : Nat) : Int) := by
    rw [wrap_id (n := 1 * _) (by omega) (by omega), wrap_id (by omega) (by omega)]
    unfold sumW
    omega
  rw [hn0]
  refine Eq.trans (rounds_scan0 (fun i => ((w :: v :: l).map LV.str, bs [32], ((l.length + 1 + sumW (w :: v :: l) i : Nat) : Int), (w :: v :: l).map LV.str, ((l.length + 2 : Nat) : Int), (i : Int), ())) S (l.length + 2) k (fun _ => none) (K (joinS (w :: v :: l), ()) (S ++ [.any])) (fun rec i hi => ?_) (fun rec => ?_) (by simp only [hws] at hl; omega)) ?_
  · unfold G.strings_Join.b0 G.strings_Join.q2 G.strings_Join.q3 G.strings_Join.q4 G.strings_Join.q5
    dsimp only
    have hi2 : i < ((w :: v :: l).map LV.str).length := by rw [List.length_map]; exact hi
    have h1 := sumW_le (w :: v :: l) hs i (by rw [hws]; omega)
    have h2 := get_size hs i (by rw [hws]; exact hi)
    rw [lt_nat, ifB_pos hi, idxL_nat hi2, map_str_get _ i (by rw [hws]; exact hi), asLeaf_str]
    rw [wrap_id (n := 9223372036854775807 - _) (by omega) (by omega), ifB_neg (by omega), wrap_succ (by omega), wrap_id (by omega) (by omega)]
    have e3 : ((l.length + 1 + sumW (w :: v :: l) i : Nat) : Int) + (((w :: v :: l).getD i (bs [])).size : Int) = ((l.length + 1 + sumW (w :: v :: l) (i + 1) : Nat) : Int) := by
      show _ = ((l.length + 1 + (sumW (w :: v :: l) i + ((w :: v :: l).getD i (bs [])).size) : Nat) : Int)
      omega
    rw [e3]
  · unfold G.strings_Join.b0 G.strings_Join.q2 G.strings_Join.q6 G.strings_Join.q7 G.strings_Join.q8 G.strings_Join.q9 G.strings_Join.q10
    dsimp only
    rw [lt_nat, ifB_neg (Nat.lt_irrefl _)]
    have h1 := sumW_le (w :: v :: l) hs (l.length + 2) (by rw [hws]; omega)
    unfold newObj
    show H.Grow.fn k ((S.length, 0), _, ()) (bldS S none) _ = _
    rw [Grow_at k S _ (by omega) (by simp only [hws] at hl; omega), idx_str0, asLeaf_str, WriteString_at k S _ w (by have := hs w (by simp); show (bs []).size + _ ≤ _; have e : (bs []).size = 0 := rfl; omega)]
    rw [show accB (some (bs [])) ++ w = w from bs_nil_app w, tail_at, List.length_map]
    have hsl : ∀ x ∈ v :: l, x.size ≤ 100000 := fun x hx => hs x (by simp only [List.mem_cons] at hx ⊢; exact .inr hx)
    have hw := hs w (by simp)
    have hvl : (v :: l).length = l.length + 1 := rfl
    refine Eq.trans (rounds_scan (fun i => (bs [32], (S.length, 0), (v :: l).map LV.str, ((v :: l).length : Int), (i : Int), ())) (fun i => bldS S (some (accJ w (v :: l) i))) (v :: l).length (fun _ => none) (K (joinS (w :: v :: l), ()) (S ++ [.any])) (fun rec i hi => ?_) (fun rec => ?_) (v :: l).length 0 k (by omega) (by rw [hvl]; simp only [hws] at hl; omega)) ?_
    · unfold G.strings_Join.b1 G.strings_Join.q11 G.strings_Join.q12 G.strings_Join.q13
      dsimp only
      have hi2 : i < ((v :: l).map LV.str).length := by rw [List.length_map]; exact hi
      have h3 := accJ_size w (v :: l) hw hsl i (by omega)
      have h4 := get_size hsl i hi
      have e4 : (bs [32]).size = 1 := rfl
      have h5 : i * 100001 ≤ 1000 * 100001 := Nat.mul_le_mul_right _ (by simp only [hws] at hl; rw [hvl] at hi; omega)
      rw [lt_nat, ifB_pos hi, idxL_nat hi2, map_str_get _ i hi, asLeaf_str, WriteString_at k S _ _ (by show (accJ w (v :: l) i).size + _ ≤ _; omega)]
      rw [WriteString_at k S _ _ (by show ((accJ w (v :: l) i) ++ bs [32]).size + _ ≤ _; rw [ByteArray.size_append]; omega), wrap_succ (by rw [hvl] at hi; omega)]
      rfl
    · unfold G.strings_Join.b1 G.strings_Join.q11
      dsimp only
      rw [lt_nat, ifB_neg (Nat.lt_irrefl _), String_at k S _ (accJ_pos _ _ _ (by rw [hvl]; omega)), accJ_all]
    · exact scan_none _ _ (fun _ _ _ => rfl)
  · exact scan_none _ _ (fun _ _ _ => rfl)
theorem Join_at0 {k : Nat} (hk : Many k) (ws : List ByteArray) (hl : ws.length ≤ 1000) (hs : ∀ x ∈ ws, x.size ≤ 100000) (S : List LV) : ∃ X, ∀ K : ByteArray × Unit → List LV → Option R, G.strings_Join.fn0 k (ws.map .str, bs [32], ()) S K = K (joinS ws, ()) (S ++ X) := by
  match ws, hl, hs with
  | [], _, _ => exact ⟨[], fun K => by rw [List.append_nil]; rfl⟩
  | [w], _, _ => exact ⟨[], fun K => by rw [List.append_nil, joinS_one]; rfl⟩
  | w :: v :: l, hl, hs => exact ⟨[.any], fun K => Join_two hk w v l hl hs S K⟩
theorem Join_at {k : Nat} (hk : Many k) (ws : List ByteArray) (hl : ws.length ≤ 1000) (hs : ∀ x ∈ ws, x.size ≤ 100000) (S : List LV) (K : ByteArray × Unit → List LV → Option R) : G.strings_Join.fn k (ws.map .str, bs [32], ()) S K = K (joinS ws, ()) S := by
  obtain ⟨X, h⟩ := Join_at0 (R := LV × List LV) hk ws hl hs S
  exact popK_at (h _) rfl
end
end Go.Lm

/- The text of an action: its lines, and what is known of a right action. -/
set_option maxRecDepth 100000
namespace Go.Lm
/-! ### right actions -/
theorem firstE_none {step : Nat → Option Int} : ∀ (d i : Nat), scan (fun i => (step i).map some) (none : Option Int) d i = none → ∀ j, i ≤ j → j < i + d → step j = none
  | 0, _, _, _, _, _ => by omega
  | d + 1, i, h, j, h1, h2 => by
    simp only [scan] at h
    cases hs : step i with
    | some r => rw [hs] at h; cases h
    | none =>
      rw [hs] at h
      by_cases e : j = i
      · subst e; exact hs
      · exact firstE_none d (i + 1) h j (by omega) (by omega)
theorem firstE_some {step : Nat → Option Int} {P : Int → Prop} (hp : ∀ j r, step j = some r → P r) : ∀ (d i : Nat) (e : Int), scan (fun i => (step i).map some) (none : Option Int) d i = some e → P e
  | 0, _, _, h => by cases h
  | d + 1, i, e, h => by
    simp only [scan] at h
    cases hs : step i with
    | some r => rw [hs] at h; cases h; exact hp _ _ hs
    | none => rw [hs] at h; exact firstE_some hp d (i + 1) e h
theorem firstE_zero {step : Nat → Option Int} (hp : ∀ j r, step j = some r → r ≠ 0) {n : Nat} {x : Int} (h : (firstE step n).getD x = 0) : (∀ j, j < n → step j = none) ∧ x = 0 := by
  unfold firstE at h
  cases hs : scan (fun i => (step i).map some) (none : Option Int) n 0 with
  | some e => rw [hs] at h; exact absurd h (firstE_some (P := fun r => r ≠ 0) hp n 0 e hs)
  | none => rw [hs] at h; exact ⟨fun j hj => firstE_none n 0 hs j (Nat.zero_le _) (by omega), h⟩
theorem of_get {α : Type} {l : List α} {z : α} {P : α → Prop} (h : ∀ i, i < l.length → P (l.getD i z)) : ∀ x ∈ l, P x := by
  intro x hx
  obtain ⟨i, hi, rfl⟩ := List.mem_iff_getElem.1 hx
  have := h i hi
  rwa [List.getD_eq_getElem?_getD, List.getElem?_eq_getElem hi] at this
structure CmdRight (c : List ByteArray) : Prop where
  n0 : 1 ≤ c.length
  n : c.length ≤ 50
  w : ∀ w ∈ c, isWordS w = true
theorem cmd_right {c : List ByteArray} (h : cmdS c = 0) : CmdRight c := by
  unfold cmdS at h
  cases h1 : decide (c.length = 0) with
  | true => rw [h1] at h; cases h
  | false =>
    rw [h1, cond_false] at h
    cases h2 : decide (c.length > 50) with
    | true => rw [h2] at h; cases h
    | false =>
      rw [h2, cond_false] at h
      cases h3 : badWords c with
      | true => rw [h3] at h; cases h
      | false =>
        have a1 := of_decide_eq_false h1
        have a2 := of_decide_eq_false h2
        refine ⟨by omega, by omega, fun w hw => ?_⟩
        unfold badWords at h3
        rw [List.any_eq_false] at h3
        have := h3 w hw
        simpa using this
theorem word_size {w : ByteArray} (h : isWordS w = true) : 1 ≤ w.size ∧ w.size ≤ 300 := by
  unfold isWordS at h
  simp only [Bool.and_eq_true, decide_eq_true_eq] at h
  exact h.2
theorem vars_right {l : List AVar} (h : varsS l = 0) : l.length ≤ 30 ∧ ∀ x ∈ l, isNameS x.1 = true ∧ x.2.size ≤ 300 ∧ allB 32 126 x.2 = true := by
  unfold varsS at h
  cases h1 : decide (l.length > 30) with
  | true => rw [h1] at h; cases h
  | false =>
    rw [h1, cond_false] at h
    have a1 := of_decide_eq_false h1
    refine ⟨by omega, of_get (z := varZ) fun i hi => ?_⟩
    have hs : ∀ j r, varS l j = some r → r ≠ 0 := fun j r hj => by
      unfold varS at hj
      cases hb1 : isNameS (l.getD j varZ).1 with
      | false => rw [hb1] at hj; cases hj; decide
      | true =>
        rw [hb1] at hj
        cases hb2 : (decide ((l.getD j varZ).2.size > 300) || !(allB 32 126 (l.getD j varZ).2)) with
        | true => rw [hb2] at hj; cases hj; decide
        | false =>
          rw [hb2] at hj
          cases hb3 : (decide (0 < j) && (strLt (l.getD j varZ).1 (l.getD (j - 1) varZ).1 || strEq (l.getD j varZ).1 (l.getD (j - 1) varZ).1)) with
          | true => rw [hb3] at hj; cases hj; decide
          | false => rw [hb3] at hj; cases hj
    have h2 : (firstE (varS l) l.length).getD 0 = 0 := by
      have e := scan_firstE (fun n : Int => n) 0 (varS l) l.length 0
      simp only [Option.map_id'] at e
      unfold firstE
      rw [← e]; exact h
    have h3 := (firstE_zero hs h2).1 i hi
    unfold varS at h3
    cases hb1 : isNameS (l.getD i varZ).1 with
    | false => rw [hb1] at h3; cases h3
    | true =>
      rw [hb1] at h3
      cases hb2 : (decide ((l.getD i varZ).2.size > 300) || !(allB 32 126 (l.getD i varZ).2)) with
      | true => rw [hb2] at h3; cases h3
      | false =>
        simp only [Bool.or_eq_false_iff, decide_eq_false_iff_not, Bool.not_eq_false'] at hb2
        exact ⟨rfl, by omega, hb2.2⟩
theorem name_size {s : ByteArray} (h : isNameS s = true) : 1 ≤ s.size ∧ s.size ≤ 40 := by
  unfold isNameS at h
  simp only [Bool.and_eq_true, decide_eq_true_eq] at h
  exact h.2.2
theorem path_len {s : ByteArray} (h : isPathS s = true) : 1 ≤ s.size ∧ s.size ≤ 200 := by
  unfold isPathS at h
  simp only [Bool.and_eq_true, decide_eq_true_eq] at h
  exact ⟨h.1, h.2.1⟩
theorem outs_right {l : List ByteArray} (h : outsS l = 0) : l.length ≤ 100 ∧ ∀ p ∈ l, isPathS p = true := by
  unfold outsS at h
  cases h0 : decide (l.length = 0) with
  | true => rw [h0] at h; cases h
  | false =>
    rw [h0, cond_false] at h
    cases h1 : decide (l.length > 100) with
    | true => rw [h1] at h; cases h
    | false =>
      rw [h1, cond_false] at h
      have a1 := of_decide_eq_false h1
      refine ⟨by omega, of_get (z := bs []) fun i hi => ?_⟩
      have hs : ∀ j r, outS l j = some r → r ≠ 0 := fun j r hj => by
        unfold outS at hj
        cases hb1 : isPathS (l.getD j (bs [])) with
        | false => rw [hb1] at hj; cases hj; decide
        | true =>
          rw [hb1] at hj
          cases hb3 : (decide (0 < j) && (strLt (l.getD j (bs [])) (l.getD (j - 1) (bs [])) || strEq (l.getD j (bs [])) (l.getD (j - 1) (bs [])))) with
          | true => rw [hb3] at hj; cases hj; decide
          | false => rw [hb3] at hj; cases hj
      have h3 := (firstE_zero hs h).1 i hi
      unfold outS at h3
      cases hb1 : isPathS (l.getD i (bs [])) with
      | false => rw [hb1] at h3; cases h3
      | true => rfl
structure ActRight (a : Act) : Prop where
  tool : isDigestS a.tool = true
  cmds : a.cmds.length ≤ 50 ∧ 1 ≤ a.cmds.length
  cmd : ∀ c ∈ a.cmds, cmdS c = 0
  vars : varsS a.vars = 0
  outs : outsS a.outs = 0
  needs : varsS a.needs = 0
  time : 1 ≤ a.time ∧ a.time ≤ 100000
theorem act_right {a : Act} (h : actS a = 0) : ActRight a := by
  unfold actS at h
  cases h1 : isDigestS a.tool with
  | false => rw [h1] at h; cases h
  | true =>
    rw [h1, cond_true] at h
    cases h2 : decide (a.cmds.length = 0) with
    | true => rw [h2] at h; cases h
    | false =>
      rw [h2, cond_false] at h
      cases h3 : decide (a.cmds.length > 50) with
      | true => rw [h3] at h; cases h
      | false =>
        rw [h3, cond_false] at h
        have hs : ∀ j r, cmdAt a.cmds j = some r → r ≠ 0 := fun j r hj => by
          unfold cmdAt at hj
          cases hb : cmdS (a.cmds.getD j []) == 0 with
          | true => rw [hb] at hj; cases hj
          | false => rw [hb] at hj; cases hj; exact fun e => by rw [e] at hb; cases hb
        obtain ⟨h4, h5⟩ := firstE_zero hs h
        have a2 := of_decide_eq_false h2
        have a3 := of_decide_eq_false h3
        have hc : ∀ c ∈ a.cmds, cmdS c = 0 := of_get (z := []) fun i hi => by
          have := h4 i hi
          unfold cmdAt at this
          cases hb : cmdS (a.cmds.getD i []) == 0 with
          | true => exact eq_of_beq hb
          | false => rw [hb] at this; cases this
        cases h6 : varsS a.vars == 0 with
        | false => rw [h6, cond_false] at h5; rw [h5] at h6; cases h6
        | true =>
          rw [h6, cond_true] at h5
          cases h7 : outsS a.outs == 0 with
          | false => rw [h7, cond_false] at h5; rw [h5] at h7; cases h7
          | true =>
            rw [h7, cond_true] at h5
            cases h8 : varsS a.needs == 0 with
            | false => rw [h8, cond_false] at h5; rw [h5] at h8; cases h8
            | true =>
              rw [h8, cond_true] at h5
              cases h9 : decide (1 ≤ a.time) && decide (a.time ≤ 100000) with
              | false => rw [h9] at h5; cases h5
              | true =>
                simp only [Bool.and_eq_true, decide_eq_true_eq] at h9
                exact ⟨h1, ⟨by omega, by omega⟩, hc, eq_of_beq h6, eq_of_beq h7, eq_of_beq h8, h9⟩
theorem digest_size {s : ByteArray} (h : isDigestS s = true) : s.size = 16 := by
  unfold isDigestS at h
  simp only [Bool.and_eq_true, beq_iff_eq] at h
  omega
/-! ### the text -/
def lnS (ws : List ByteArray) : ByteArray := joinS ws ++ bs [10]
def doS (c : List ByteArray) : ByteArray := lnS [bs [100, 111], joinS c]
def varLn (x : AVar) : ByteArray := lnS [bs [118, 97, 114], x.1, x.2]
def outLn (p : ByteArray) : ByteArray := lnS [bs [111, 117, 116], p]
def needLn (x : AVar) : ByteArray := lnS [bs [110, 101, 101, 100], x.1, x.2]
def toolLn (s : ByteArray) : ByteArray := lnS [bs [116, 111, 111, 108], s]
def timeLn (n : Int) : ByteArray := lnS [bs [116, 105, 109, 101], itoaS n]
/-- What is written one behind the other. -/
def catN {α : Type} (f : α → ByteArray) (z : α) (l : List α) (acc : ByteArray) : Nat → ByteArray
  | 0 => acc
  | i + 1 => catN f z l acc i ++ f (l.getD i z)
theorem catN_size {α : Type} {f : α → ByteArray} {z : α} {l : List α} {acc : ByteArray} {m : Nat} (h : ∀ x ∈ l, (f x).size ≤ m) : ∀ i, i ≤ l.length → (catN f z l acc i).size ≤ acc.size + i * m
  | 0, _ => by unfold catN; omega
  | i + 1, hi => by
    have ih := catN_size (z := z) (acc := acc) h i (by omega)
    have := h _ (mem_get (z := z) (show i < l.length by omega))
    unfold catN
    rw [ByteArray.size_append, Nat.succ_mul]
    omega
def textA1 (a : Act) : ByteArray := toolLn a.tool
def textA2 (a : Act) : ByteArray := catN doS [] a.cmds (textA1 a) a.cmds.length
def textA3 (a : Act) : ByteArray := catN varLn varZ a.vars (textA2 a) a.vars.length
def textA4 (a : Act) : ByteArray := catN outLn (bs []) a.outs (textA3 a) a.outs.length
def textA5 (a : Act) : ByteArray := catN needLn varZ a.needs (textA4 a) a.needs.length
def textA (a : Act) : ByteArray := textA5 a ++ timeLn a.time
theorem joinS_two (a b : ByteArray) : joinS [a, b] = (a ++ bs [32]) ++ b := by
  apply toL_inj
  rw [toL_app, toL_app]
  show toL a ++ 32 :: toL b = (toL a ++ [32]) ++ toL b
  simp
theorem joinS_three (a b c : ByteArray) : joinS [a, b, c] = (((a ++ bs [32]) ++ b) ++ bs [32]) ++ c := by
  apply toL_inj
  rw [toL_app, toL_app, toL_app, toL_app]
  show toL a ++ 32 :: (toL b ++ 32 :: toL c) = (((toL a ++ [32]) ++ toL b) ++ [32]) ++ toL c
  simp
theorem joinS_size : ∀ (ws : List ByteArray) (m : Nat), (∀ w ∈ ws, w.size ≤ m) → (joinS ws).size ≤ ws.length * (m + 1)
  | [], _, _ => by unfold joinS; rw [ofL_size]; exact Nat.zero_le _
  | [w], m, h => by
    have := h w (by simp)
    rw [joinS_one]
    simp only [List.length_cons, List.length_nil]; omega
  | w :: v :: l, m, h => by
    have ih := joinS_size (v :: l) m (fun x hx => h x (by simp only [List.mem_cons] at hx ⊢; exact .inr hx))
    have hw := h w (by simp)
    unfold joinS at ih ⊢
    rw [ofL_size] at ih ⊢
    rw [List.map_cons, joinL_cons 32 _ (by simp), List.length_append, List.length_cons, toL_len]
    rw [List.length_cons (a := w), Nat.succ_mul]
    omega
section
variable {R : Type}
theorem line5_at {k : Nat} (hk : Many k) (ws : List ByteArray) (hl : ws.length ≤ 3) (hs : ∀ x ∈ ws, x.size ≤ 100000) (S : List LV) (acc : Option ByteArray) (ha : (accB acc).size ≤ 100000000000) (K : Unit → List LV → Option R) :
    G.action_text_1.fn k (ws.map .str, (S.length, 0), ()) (bldS S acc) K = K () (bldS S (some (accB acc ++ lnS ws))) := by
  unfold G.action_text_1.fn
  dsimp only
  have h1 := joinS_size ws 100000 hs
  have h2 : ws.length * (100000 + 1) ≤ 3 * (100000 + 1) := Nat.mul_le_mul_right _ hl
  have e : (bs [10]).size = 1 := rfl
  rw [Join_at hk ws (by omega) hs]
  unfold catStr
  dsimp only
  rw [ifB_pos (by omega), WriteString_at k S acc _ (by rw [ByteArray.size_append]; omega)]
  rfl
end
end Go.Lm

/- The text of an action, as the program and as the reference write it. -/
set_option maxRecDepth 100000
namespace Go.Lm
theorem itoa_len (n : Int) (h0 : -9223372036854775808 ≤ n) (h1 : n ≤ 9223372036854775807) : (itoaS n).size ≤ 21 := by
  have := Lib.itoa_length_le n h0 h1
  unfold itoaS
  simpa [ByteArray.size] using this
theorem ln_size (ws : List ByteArray) (m : Nat) (h : ∀ w ∈ ws, w.size ≤ m) : (lnS ws).size ≤ ws.length * (m + 1) + 1 := by
  have := joinS_size ws m h
  have e : (bs [10]).size = 1 := rfl
  unfold lnS
  rw [ByteArray.size_append]; omega
theorem do_size {c : List ByteArray} (h : cmdS c = 0) : (joinS c).size ≤ 15050 ∧ (doS c).size ≤ 30103 := by
  have hc := cmd_right h
  have h1 := joinS_size c 300 (fun w hw => (word_size (hc.w w hw)).2)
  have h2 : c.length * (300 + 1) ≤ 50 * (300 + 1) := Nat.mul_le_mul_right _ hc.n
  have h3 := ln_size [bs [100, 111], joinS c] 15050 (fun w hw => by
    simp only [List.mem_cons, List.not_mem_nil, or_false] at hw
    rcases hw with rfl | rfl
    · decide
    · omega)
  refine ⟨by omega, ?_⟩
  unfold doS
  simp only [List.length_cons, List.length_nil] at h3
  omega
theorem three_size {w a b : ByteArray} (hw : w.size ≤ 300) (ha : a.size ≤ 300) (hb : b.size ≤ 300) : (lnS [w, a, b]).size ≤ 1000 := by
  have h3 := ln_size [w, a, b] 300 (fun x hx => by
    simp only [List.mem_cons, List.not_mem_nil, or_false] at hx
    rcases hx with rfl | rfl | rfl <;> assumption)
  simp only [List.length_cons, List.length_nil] at h3
  omega
theorem two_size {w a : ByteArray} (hw : w.size ≤ 300) (ha : a.size ≤ 300) : (lnS [w, a]).size ≤ 1000 := by
  have h3 := ln_size [w, a] 300 (fun x hx => by
    simp only [List.mem_cons, List.not_mem_nil, or_false] at hx
    rcases hx with rfl | rfl <;> assumption)
  simp only [List.length_cons, List.length_nil] at h3
  omega
theorem var_sizes {l : List AVar} (h : varsS l = 0) : ∀ x ∈ l, x.1.size ≤ 300 ∧ x.2.size ≤ 300 := fun x hx => by
  obtain ⟨h1, h2, _⟩ := (vars_right h).2 x hx
  have := name_size h1
  exact ⟨by omega, h2⟩
theorem out_sizes {l : List ByteArray} (h : outsS l = 0) : ∀ p ∈ l, p.size ≤ 300 := fun p hp => by
  have := path_len ((outs_right h).2 p hp)
  omega
structure TextSizes (a : Act) : Prop where
  t1 : (textA1 a).size ≤ 1000
  c : ∀ i, i ≤ a.cmds.length → (catN doS [] a.cmds (textA1 a) i).size ≤ 2000000
  v : ∀ i, i ≤ a.vars.length → (catN varLn varZ a.vars (textA2 a) i).size ≤ 3000000
  o : ∀ i, i ≤ a.outs.length → (catN outLn (bs []) a.outs (textA3 a) i).size ≤ 4000000
  n : ∀ i, i ≤ a.needs.length → (catN needLn varZ a.needs (textA4 a) i).size ≤ 5000000
theorem text_sizes {a : Act} (r : ActRight a) : TextSizes a := by
  have h1 : (textA1 a).size ≤ 1000 := two_size (by decide) (by rw [digest_size r.tool]; decide)
  have hc : ∀ i, i ≤ a.cmds.length → (catN doS [] a.cmds (textA1 a) i).size ≤ 2000000 := fun i hi => by
    have h2 := catN_size (f := doS) (z := []) (acc := textA1 a) (m := 30103) (fun c hc => (do_size (r.cmd c hc)).2) i hi
    have h3 : i * 30103 ≤ 50 * 30103 := Nat.mul_le_mul_right _ (Nat.le_trans hi r.cmds.1)
    omega
  have hv : ∀ i, i ≤ a.vars.length → (catN varLn varZ a.vars (textA2 a) i).size ≤ 3000000 := fun i hi => by
    have h2 := catN_size (f := varLn) (z := varZ) (acc := textA2 a) (m := 1000) (fun x hx => three_size (by decide) (var_sizes r.vars x hx).1 (var_sizes r.vars x hx).2) i hi
    have h3 : i * 1000 ≤ 30 * 1000 := Nat.mul_le_mul_right _ (Nat.le_trans hi (vars_right r.vars).1)
    have h4 := hc _ (Nat.le_refl _)
    unfold textA2 at h2 ⊢
    omega
  have ho : ∀ i, i ≤ a.outs.length → (catN outLn (bs []) a.outs (textA3 a) i).size ≤ 4000000 := fun i hi => by
    have h2 := catN_size (f := outLn) (z := bs []) (acc := textA3 a) (m := 1000) (fun x hx => two_size (by decide) (out_sizes r.outs x hx)) i hi
    have h3 : i * 1000 ≤ 100 * 1000 := Nat.mul_le_mul_right _ (Nat.le_trans hi (outs_right r.outs).1)
    have h4 := hv _ (Nat.le_refl _)
    unfold textA3 at h2 ⊢
    omega
  have hn : ∀ i, i ≤ a.needs.length → (catN needLn varZ a.needs (textA4 a) i).size ≤ 5000000 := fun i hi => by
    have h2 := catN_size (f := needLn) (z := varZ) (acc := textA4 a) (m := 1000) (fun x hx => three_size (by decide) (var_sizes r.needs x hx).1 (var_sizes r.needs x hx).2) i hi
    have h3 : i * 1000 ≤ 30 * 1000 := Nat.mul_le_mul_right _ (Nat.le_trans hi (vars_right r.needs).1)
    have h4 := ho _ (Nat.le_refl _)
    unfold textA4 at h2 ⊢
    omega
  exact ⟨h1, hc, hv, ho, hn⟩
theorem ln_pos (ws : List ByteArray) (b : ByteArray) : 0 < (b ++ lnS ws).size := by
  have e : (bs [10]).size = 1 := rfl
  unfold lnS
  rw [ByteArray.size_append, ByteArray.size_append]; omega
section
variable {R : Type}
theorem line_two {k : Nat} (hk : Many k) (a b : ByteArray) (ha : a.size ≤ 100000) (hb : b.size ≤ 100000) (S : List LV) (acc : ByteArray) (hacc : acc.size ≤ 100000000000) (K : Unit → List LV → Option R) :
    G.action_text_1.fn k ([.str a, .str b], (S.length, 0), ()) (bldS S (some acc)) K = K () (bldS S (some (acc ++ lnS [a, b]))) :=
  line5_at hk [a, b] (by simp) (fun x hx => by
    simp only [List.mem_cons, List.not_mem_nil, or_false] at hx
    rcases hx with rfl | rfl <;> assumption) S (some acc) hacc K
theorem line_three {k : Nat} (hk : Many k) (a b c : ByteArray) (ha : a.size ≤ 100000) (hb : b.size ≤ 100000) (hc : c.size ≤ 100000) (S : List LV) (acc : ByteArray) (hacc : acc.size ≤ 100000000000) (K : Unit → List LV → Option R) :
    G.action_text_1.fn k ([.str a, .str b, .str c], (S.length, 0), ()) (bldS S (some acc)) K = K () (bldS S (some (acc ++ lnS [a, b, c]))) :=
  line5_at hk [a, b, c] (by simp) (fun x hx => by
    simp only [List.mem_cons, List.not_mem_nil, or_false] at hx
    rcases hx with rfl | rfl | rfl <;> assumption) S (some acc) hacc K
abbrev CapT := (Nat × Nat) × Unit
theorem prog_cmds {k : Nat} (hk : Many k) (a : Act) (r : ActRight a) (S : List LV) (J : ActT × (Nat × Nat) × CapT × Unit → List LV → Option R) :
    rounds (G.action_text.b0 k J) k (a.tup, (S.length, 0), ((S.length, 0), ()), a.cmds.map cmdL, (a.cmds.length : Int), (0 : Int), ()) (bldS S (some (textA1 a))) = J (a.tup, (S.length, 0), ((S.length, 0), ()), ()) (bldS S (some (textA2 a))) := by
  have hk' := hk
  unfold Many at hk'
  have hl := r.cmds.1
  refine Eq.trans (rounds_scan (fun i => (a.tup, (S.length, 0), ((S.length, 0), ()), a.cmds.map cmdL, (a.cmds.length : Int), (i : Int), ())) (fun i => bldS S (some (catN doS [] a.cmds (textA1 a) i))) a.cmds.length (fun _ => none) (J (a.tup, (S.length, 0), ((S.length, 0), ()), ()) (bldS S (some (textA2 a)))) (fun rec i hi => ?_) (fun rec => ?_) a.cmds.length 0 k (by omega) (by omega)) (scan_none _ _ (fun _ _ _ => rfl))
  · unfold G.action_text.b0 Act.tup
    dsimp only
    have hi2 : i < (a.cmds.map cmdL).length := by rw [List.length_map]; exact hi
    have hcs := r.cmd _ (mem_get (z := []) hi)
    have hc := cmd_right hcs
    have hd := do_size hcs
    have hz := (text_sizes r).c i (by omega)
    rw [lt_nat, ifB_pos hi, idxL_nat hi2, cmd_get _ _ hi, cmdL_at, Join_at hk _ (by have := hc.n; omega) (fun x hx => by have := word_size (hc.w x hx); omega)]
    dsimp only
    rw [line_two hk _ _ (by decide) (by omega) S _ (by omega), wrap_succ (by omega)]
    rfl
  · unfold G.action_text.b0 Act.tup
    dsimp only
    rw [lt_nat, ifB_neg (Nat.lt_irrefl _)]
    rfl
theorem prog_vars {k : Nat} (hk : Many k) (a : Act) (r : ActRight a) (S : List LV) (J : ActT × (Nat × Nat) × CapT × Unit → List LV → Option R) :
    rounds (G.action_text.b1 k J) k (a.tup, (S.length, 0), ((S.length, 0), ()), a.vars.map varL, (a.vars.length : Int), (0 : Int), ()) (bldS S (some (textA2 a))) = J (a.tup, (S.length, 0), ((S.length, 0), ()), ()) (bldS S (some (textA3 a))) := by
  have hk' := hk
  unfold Many at hk'
  have hl := (vars_right r.vars).1
  refine Eq.trans (rounds_scan (fun i => (a.tup, (S.length, 0), ((S.length, 0), ()), a.vars.map varL, (a.vars.length : Int), (i : Int), ())) (fun i => bldS S (some (catN varLn varZ a.vars (textA2 a) i))) a.vars.length (fun _ => none) (J (a.tup, (S.length, 0), ((S.length, 0), ()), ()) (bldS S (some (textA3 a)))) (fun rec i hi => ?_) (fun rec => ?_) a.vars.length 0 k (by omega) (by omega)) (scan_none _ _ (fun _ _ _ => rfl))
  · unfold G.action_text.b1 Act.tup
    dsimp only
    have hi2 : i < (a.vars.map varL).length := by rw [List.length_map]; exact hi
    have hs := var_sizes r.vars _ (mem_get (z := varZ) hi)
    have hz := (text_sizes r).v i (by omega)
    rw [lt_nat, ifB_pos hi, idxL_nat hi2, var_get _ _ hi, varL_mat]
    simp only [List.getD_cons_zero, List.getD_cons_succ, asStr_str]
    rw [line_three hk _ _ _ (by decide) (by omega) (by omega) S _ (by omega), wrap_succ (by omega)]
    rfl
  · unfold G.action_text.b1 Act.tup
    dsimp only
    rw [lt_nat, ifB_neg (Nat.lt_irrefl _)]
    rfl
theorem prog_outs {k : Nat} (hk : Many k) (a : Act) (r : ActRight a) (S : List LV) (J : ActT × (Nat × Nat) × CapT × Unit → List LV → Option R) :
    rounds (G.action_text.b2 k J) k (a.tup, (S.length, 0), ((S.length, 0), ()), a.outs.map .str, (a.outs.length : Int), (0 : Int), ()) (bldS S (some (textA3 a))) = J (a.tup, (S.length, 0), ((S.length, 0), ()), ()) (bldS S (some (textA4 a))) := by
  have hk' := hk
  unfold Many at hk'
  have hl := (outs_right r.outs).1
  refine Eq.trans (rounds_scan (fun i => (a.tup, (S.length, 0), ((S.length, 0), ()), a.outs.map LV.str, (a.outs.length : Int), (i : Int), ())) (fun i => bldS S (some (catN outLn (bs []) a.outs (textA3 a) i))) a.outs.length (fun _ => none) (J (a.tup, (S.length, 0), ((S.length, 0), ()), ()) (bldS S (some (textA4 a)))) (fun rec i hi => ?_) (fun rec => ?_) a.outs.length 0 k (by omega) (by omega)) (scan_none _ _ (fun _ _ _ => rfl))
  · unfold G.action_text.b2 Act.tup
    dsimp only
    have hi2 : i < (a.outs.map LV.str).length := by rw [List.length_map]; exact hi
    have hs := out_sizes r.outs _ (mem_get (z := bs []) hi)
    have hz := (text_sizes r).o i (by omega)
    rw [lt_nat, ifB_pos hi, idxL_nat hi2, map_str_get _ _ hi, asLeaf_str]
    rw [line_two hk _ _ (by decide) (by omega) S _ (by omega), wrap_succ (by omega)]
    rfl
  · unfold G.action_text.b2 Act.tup
    dsimp only
    rw [lt_nat, ifB_neg (Nat.lt_irrefl _)]
    rfl
theorem prog_needs {k : Nat} (hk : Many k) (a : Act) (r : ActRight a) (S : List LV) (J : ActT × (Nat × Nat) × CapT × Unit → List LV → Option R) :
    rounds (G.action_text.b3 k J) k (a.tup, (S.length, 0), ((S.length, 0), ()), a.needs.map varL, (a.needs.length : Int), (0 : Int), ()) (bldS S (some (textA4 a))) = J (a.tup, (S.length, 0), ((S.length, 0), ()), ()) (bldS S (some (textA5 a))) := by
  have hk' := hk
  unfold Many at hk'
  have hl := (vars_right r.needs).1
  refine Eq.trans (rounds_scan (fun i => (a.tup, (S.length, 0), ((S.length, 0), ()), a.needs.map varL, (a.needs.length : Int), (i : Int), ())) (fun i => bldS S (some (catN needLn varZ a.needs (textA4 a) i))) a.needs.length (fun _ => none) (J (a.tup, (S.length, 0), ((S.length, 0), ()), ()) (bldS S (some (textA5 a)))) (fun rec i hi => ?_) (fun rec => ?_) a.needs.length 0 k (by omega) (by omega)) (scan_none _ _ (fun _ _ _ => rfl))
  · unfold G.action_text.b3 Act.tup
    dsimp only
    have hi2 : i < (a.needs.map varL).length := by rw [List.length_map]; exact hi
    have hs := var_sizes r.needs _ (mem_get (z := varZ) hi)
    have hz := (text_sizes r).n i (by omega)
    rw [lt_nat, ifB_pos hi, idxL_nat hi2, var_get _ _ hi, varL_mat]
    simp only [List.getD_cons_zero, List.getD_cons_succ, asStr_str]
    rw [line_three hk _ _ _ (by decide) (by omega) (by omega) S _ (by omega), wrap_succ (by omega)]
    rfl
  · unfold G.action_text.b3 Act.tup
    dsimp only
    rw [lt_nat, ifB_neg (Nat.lt_irrefl _)]
    rfl
theorem prog_text0 {k : Nat} (hk : Many k) (a : Act) (r : ActRight a) {S : List LV} (hS : HasPow S) (K : ByteArray × Unit → List LV → Option R) : G.action_text.fn0 k (a.tup, ()) S K = K (textA a, ()) (S ++ [.any]) := by
  unfold G.action_text.fn0
  unfold Act.tup
  dsimp only
  unfold newObj
  have h0 : G.action_text_1.fn (R := R) k ([.str (bs [116, 111, 111, 108]), .str a.tool], (S.length, 0), ()) (bldS S none) = fun K => K () (bldS S (some (textA1 a))) := by
    funext K
    refine Eq.trans (line5_at hk [bs [116, 111, 111, 108], a.tool] (by simp) (fun x hx => ?_) S none (by decide) K) ?_
    · simp only [List.mem_cons, List.not_mem_nil, or_false] at hx
      rcases hx with rfl | rfl
      · decide
      · rw [digest_size r.tool]; decide
    · rw [show accB none ++ lnS [bs [116, 111, 111, 108], a.tool] = textA1 a from bs_nil_app _]
  show G.action_text_1.fn (R := R) k ([.str (bs [116, 111, 111, 108]), .str a.tool], (S.length, 0), ()) (bldS S none) _ = _
  rw [h0]
  dsimp only
  rw [List.length_map]
  refine Eq.trans (prog_cmds hk a r S _) ?_
  unfold Act.tup
  dsimp only
  rw [List.length_map]
  refine Eq.trans (prog_vars hk a r S _) ?_
  unfold Act.tup
  dsimp only
  rw [List.length_map]
  refine Eq.trans (prog_outs hk a r S _) ?_
  unfold Act.tup
  dsimp only
  rw [List.length_map]
  refine Eq.trans (prog_needs hk a r S _) ?_
  unfold Act.tup
  dsimp only
  have ht := r.time
  have hi := itoa_len a.time (by omega) (by omega)
  have hz := (text_sizes r).n _ (Nat.le_refl _)
  rw [Itoa_at k (hS.app _) _ (by omega) (by omega)]
  dsimp only
  rw [line_two hk _ _ (by decide) (by omega) S _ (by show (catN needLn varZ a.needs (textA4 a) a.needs.length).size ≤ _; omega)]
  exact String_at k S _ (ln_pos _ _) _
theorem prog_text {k : Nat} (hk : Many k) (a : Act) (r : ActRight a) {S : List LV} (hS : HasPow S) (K : ByteArray × Unit → List LV → Option R) : G.action_text.fn k (a.tup, ()) S K = K (textA a, ()) S :=
  popK_at (G := [.any]) (prog_text0 hk a r hS _) rfl
def textActS (a : Act) : ByteArray × Int := cond (actS a == 0) (textA a, 0) (bs [], actS a)
theorem prog_Text {k : Nat} (hk : Many k) (a : Act) (ok : ActOk a) {S : List LV} (hS : HasPow S) (K : ByteArray × Int × Unit → List LV → Option R) : G.action_Text.fn k (a.tup, ()) S K = K ((textActS a).1, (textActS a).2, ()) S := by
  unfold G.action_Text.fn
  have h := prog_CheckAction hk a ok S (fun r1 S => ifB (r1.1 != (0 : Int)) (K (bs [], r1.1, ()) S) (G.action_text.fn k (a.tup, ()) S fun r2 S => K (r2.1, 0, ()) S))
  refine Eq.trans h ?_
  unfold textActS
  rw [ne0]
  cases hz : actS a == 0 with
  | false => rfl
  | true =>
    rw [Bool.not_true, ifB_false, prog_text hk a (act_right (eq_of_beq hz)) hS]
    rfl
end
end Go.Lm

/- The reference's text of an action, copies, and the law of checks. -/
set_option maxRecDepth 100000
namespace Go.Lm
section
variable {R : Type}
theorem cat_le {a b : ByteArray} (h : a.size + b.size ≤ 9223372036854775807) (K : ByteArray → Option R) : catStr a b K = K (a ++ b) := by
  unfold catStr
  rw [ifB_pos h]
theorem bs_blank (l : List Nat) : bs (l ++ [32]) = bs l ++ bs [32] := toL_inj (by rw [toL_app, bs_toL, bs_toL, bs_toL, List.map_append])
theorem ln_two (l : List Nat) (s : ByteArray) : (bs (l ++ [32]) ++ s) ++ bs [10] = lnS [bs l, s] := by
  unfold lnS
  rw [joinS_two, bs_blank]
theorem ln_three (l : List Nat) (s t : ByteArray) : (((bs (l ++ [32]) ++ s) ++ bs [32]) ++ t) ++ bs [10] = lnS [bs l, s, t] := by
  unfold lnS
  rw [joinS_three, bs_blank]
/-! ### copies -/
structure ActFit (a : Act) : Prop where
  cmds : a.cmds.length * 24 ≤ 140737488351232
  cmd : ∀ c ∈ a.cmds, c.length * 16 ≤ 140737488351232
  vars : a.vars.length * 32 ≤ 140737488351232
  outs : a.outs.length * 16 ≤ 140737488351232
  needs : a.needs.length * 32 ≤ 140737488351232
theorem cloneL5 {n : Nat} {xs : List LV} (h : xs.length * n ≤ 140737488351232) (hn : 1 ≤ n) : cloneF n (xs, ()) = some (xs, ()) := by
  have := Nat.mul_le_mul_left xs.length hn
  exact cloneL (by omega) (by omega)
theorem fit_len {a : Act} (ft : ActFit a) : ActLen a 140737488355328 := ⟨by have := ft.cmds; omega, by have := ft.vars; omega, by have := ft.outs; omega, by have := ft.needs; omega⟩
end
end Go.Lm
