/- The program: rules one by one, outputs beside all others. -/
import Derived.Test.YtefkkflmiabfeaaGreatDoorLmQ2
set_option linter.unusedVariables false
set_option linter.unusedSimpArgs false
set_option maxRecDepth 100000
namespace Go.Lm
section
variable {R : Type}
theorem op_b0 {k : Nat} (hk : Many k) (l : List Rule) (ok : RulesOk l) (hn : l.length ≤ 500) (S : List LV) (J : List LV × Unit → List LV → Option R) (Jr : LV × Int × Unit → List LV → Option R) :
    rounds (G.steps_open.b0 k J Jr) k (l.map Rule.lv, l.map Rule.lv, (l.length : Int), 0, ()) S = ((firstE (nameE l) l.length).map fun e => Jr (.nilp, e, ()) S).getD (J (l.map Rule.lv, ()) S) := by
  have hk' := hk
  unfold Many at hk'
  unfold firstE
  rw [← scan_firstE]
  refine rounds_scan0 (fun i => (l.map Rule.lv, l.map Rule.lv, (l.length : Int), (i : Int), ())) S l.length k _ _ (fun rec i hi => ?_) (fun rec => ?_) (by omega)
  · have hget : ∀ (K : LV → Option R), idxL (l.map Rule.lv) (i : Int) K = K (l.getD i .zero).lv := fun K => by rw [idxL_nat (by simpa using hi), rule_get l i hi]
    unfold G.steps_open.b0
    dsimp only
    rw [lt_nat, ifB_pos hi, hget, Rule.mat, rule_cells]
    refine (prog_checkRule hk _ (ok.r _ (rule_mem l i hi)) S _).trans ?_
    dsimp only
    simp only [name_prev l i hi hn, wrap_succ (show i < 9223372036854775807 by omega)]
    unfold nameE
    rw [ne0, show (l.getD i .zero).name = ruleName l i from rfl]
    cases ruleS (l.getD i .zero) == 0 with
    | false => rfl
    | true =>
      generalize (decide (0 < i) && (strLt (ruleName l i) (ruleName l (i - 1)) || strEq (ruleName l i) (ruleName l (i - 1)))) = b
      cases b <;> rfl
  · unfold G.steps_open.b0
    dsimp only
    rw [lt_nat, ifB_neg (Nat.lt_irrefl _)]
/-! ### Which rule has an output -/
def ofN (l : List Rule) : Nat → ByteArray → Option Nat
  | 0, _ => none
  | i + 1, p => cond (isIn (l.getD i .zero).act.outs p) (some i) (ofN l i p)
def ofTo (l : List Rule) (i j : Nat) (p : ByteArray) : Option Nat := cond (isIn ((l.getD i .zero).act.outs.take j) p) (some i) (ofN l i p)
def ofV (o : Option Nat) : Option LV := o.map fun (k : Nat) => LV.int .i64 (k : Int)
theorem ofN_some (l : List Rule) (p : ByteArray) : ∀ i, i ≤ l.length → (ofN l i p).isSome = outsIn (l.take i) p
  | 0, _ => rfl
  | i + 1, h => by
    have ih := ofN_some l p i (by omega)
    unfold outsIn at ih ⊢
    rw [any_take _ l .zero i (by omega), ← ih]
    show (cond (isIn (l.getD i .zero).act.outs p) (some i) (ofN l i p)).isSome = _
    cases isIn (l.getD i .zero).act.outs p <;> simp
/-- What open has made: the plan and its map. -/
structure PlanAt (S : List LV) (id : Nat) (l : List Rule) (f : ByteArray → Option Nat) (deps : LV) : Prop where
  map : ∃ m, IsMap S id m fun p => ofV (f p)
  plan : S.getD (id + 1) .any = .obj 66 [.sl 8 (l.map Rule.lv), .map id, deps]
theorem PlanAt.keeps {S S' : List LV} {id : Nat} {l : List Rule} {f : ByteArray → Option Nat} {deps : LV} {M : List Nat} (h : PlanAt S id l f deps) (hk : Keeps S S' M) (h1 : id ∉ M) (h2 : id + 1 ∉ M) : PlanAt S' id l f deps := by
  obtain ⟨⟨m, hm⟩, hp⟩ := h
  exact ⟨⟨m, hm.keeps hk h1⟩, hk.get hp (by simp) h2⟩
theorem plan_map (l : List LV) (id : Nat) (deps : LV) (K : LV → Option R) : ldRaw [.sl 8 l, .map id, deps] (0 + 1) K = K (.map id) := rfl
theorem asMap_map (id : Nat) (K : Nat → Option R) : asMap (.map id) K = K id := rfl
theorem of_int (o : Option Nat) (K : Int → Option R) : asInt .i64 ((ofV o).getD (.int .i64 0)) K = K ((o.getD 0 : Nat) : Int) := by
  cases o with
  | none => exact asInt_int _ _ _
  | some k => exact asInt_int _ _ _
theorem of_some (o : Option Nat) : (ofV o).isSome = o.isSome := by cases o <;> rfl
/-- What is known of rules that are right one by one. -/
structure RulesFit (l : List Rule) : Prop where
  n : l.length ≤ 500
  fit : ∀ r ∈ l, RuleFit r
  dist : ∀ r ∈ l, ∀ j, j < r.act.outs.length → isIn (r.act.outs.take j) (r.act.outs.getD j (bs [])) = false
  clash : ∀ i, i < l.length → ∀ j, j < (l.getD i .zero).act.outs.length → refClash l i (outAt l i j) = clashesS l (outAt l i j)
abbrev OpT := List LV × (Nat × Nat) × Ids × List LV × Int × Int × Unit
theorem op_b2 {k : Nat} (hk : Many k) (l : List Rule) (fit : RulesFit l) (id : Nat) (ids : Ids) (hid : ∀ x ∈ idL ids, x ≠ id ∧ x ≠ id + 1) (i : Nat) (hi : i < l.length) (ii : Int) (S : List LV) (hP : PlanAt S id l (ofN l i) .nilsl) (hT : Tang S ids (outsIn l) (insIn l) (overOuts l) (overIns l)) :
    ∃ S', (∀ e, ruleOutE l i = some e → Keeps S S' [id]) ∧ (ruleOutE l i = none → PlanAt S' id l (ofN l (i + 1)) .nilsl ∧ Tang S' ids (outsIn l) (insIn l) (overOuts l) (overIns l) ∧ Keeps S S' [id]) ∧
      ∀ q : (OpT → List LV → Option R) × (LV × Int × Unit → List LV → Option R), rounds (G.steps_open.b2 k q.1 q.2) k (l.map Rule.lv, (id + 1, 0), ids, (i : Int), l.map Rule.lv, (l.length : Int), ii, (l.getD i .zero).act.outs.map .str, ((l.getD i .zero).act.outs.length : Int), 0, ()) S =
        (match ruleOutE l i with | some e => q.2 (.nilp, e, ()) S' | none => q.1 (l.map Rule.lv, (id + 1, 0), ids, l.map Rule.lv, (l.length : Int), ii, ()) S') := by
  have hk' := hk
  unfold Many at hk'
  have hm := rule_mem l i hi
  have hon := (fit.fit _ hm).on
  have hl := loop_inv (R := R) (ε := Int) (b := fun (q : (OpT → List LV → Option R) × (LV × Int × Unit → List LV → Option R)) => G.steps_open.b2 k q.1 q.2) (x := fun j => (l.map Rule.lv, (id + 1, 0), ids, (i : Int), l.map Rule.lv, (l.length : Int), ii, (l.getD i .zero).act.outs.map LV.str, ((l.getD i .zero).act.outs.length : Int), (j : Int), ())) (n := (l.getD i .zero).act.outs.length)
    (Inv := fun j S1 => PlanAt S1 id l (ofTo l i j) .nilsl ∧ Tang S1 ids (outsIn l) (insIn l) (overOuts l) (overIns l) ∧ Keeps S S1 [id])
    (PE := fun _ S1 => Keeps S S1 [id]) (e := fun j => outE l i (outAt l i j))
    (out := fun q o S' => match o with | some e => q.2 (.nilp, e, ()) S' | none => q.1 (l.map Rule.lv, (id + 1, 0), ids, l.map Rule.lv, (l.length : Int), ii, ()) S')
    (fun j S1 hj hI => ?_) (fun q rec S1 hI => ?_) (l.getD i .zero).act.outs.length 0 k S (by omega) (by omega) ⟨hP, hT, Keeps.refl _ _⟩
  · obtain ⟨S', h1, h2, h3⟩ := hl
    refine ⟨S', h1, fun hn => ?_, h3⟩
    obtain ⟨a, b, c⟩ := h2 hn
    refine ⟨?_, b, c⟩
    have : ofTo l i (l.getD i .zero).act.outs.length = ofN l (i + 1) := by
      funext p
      unfold ofTo
      rw [List.take_length]; rfl
    rw [← this]; exact a
  · obtain ⟨⟨⟨m, hMap⟩, hPl⟩, hT1, hK⟩ := hI
    have hsz : (outAt l i j).size ≤ 300 := (fit.fit _ hm).os _ (str_mem _ j hj)
    have hthere : (ofTo l i j (outAt l i j)).isSome = outsIn (l.take i) (outAt l i j) := by
      unfold ofTo
      rw [show isIn ((l.getD i .zero).act.outs.take j) (outAt l i j) = false from fit.dist _ hm j hj, cond_false, ofN_some l _ i (by omega)]
    have hb : ∀ (q : (OpT → List LV → Option R) × (LV × Int × Unit → List LV → Option R)) rec, G.steps_open.b2 k q.1 q.2 rec (l.map Rule.lv, (id + 1, 0), ids, (i : Int), l.map Rule.lv, (l.length : Int), ii, (l.getD i .zero).act.outs.map LV.str, ((l.getD i .zero).act.outs.length : Int), (j : Int), ()) S1 =
        cond (outsIn (l.take i) (outAt l i j)) (q.2 (.nilp, 7, ()) S1) (G.steps_tangle_clashes.fn k (ids, outAt l i j, ()) (S1.set id (.mp .str (mapPut m (.str (outAt l i j)) (.int .i64 (i : Int))))) fun r39 S => ifB r39.1 (q.2 (.nilp, 12, ()) S) (rec (l.map Rule.lv, (id + 1, 0), ids, (i : Int), l.map Rule.lv, (l.length : Int), ii, (l.getD i .zero).act.outs.map LV.str, ((l.getD i .zero).act.outs.length : Int), ((j + 1 : Nat) : Int), ()) S)) := fun q rec => by
      unfold G.steps_open.b2
      dsimp only
      rw [lt_nat, ifB_pos hj, idxL_nat (by simpa using hj), map_str_get _ j hj, asLeaf_str, show (l.getD i .zero).act.outs.getD j (bs []) = outAt l i j from rfl, at_of hPl, plan_map, asMap_map, hMap.mp, hMap.get, of_int, of_some, hthere]
      cases outsIn (l.take i) (outAt l i j) with
      | true => rfl
      | false =>
        rw [ifB_false, at_of hPl, plan_map, asMap_map, hMap.mp, setS_of, wrap_succ (by omega)]
        rfl
    have hput := hMap.put (outAt l i j) (.int .i64 (i : Int))
    have hK2 : Keeps S1 (S1.set id (.mp .str (mapPut m (.str (outAt l i j)) (.int .i64 (i : Int))))) [id] := Keeps.set _ _ _
    have hT2 : Tang (S1.set id (.mp .str (mapPut m (.str (outAt l i j)) (.int .i64 (i : Int))))) ids (outsIn l) (insIn l) (overOuts l) (overIns l) :=
      ⟨hT1.o.keeps hK2 (by simp; exact (hid _ (by simp [idL])).1), hT1.i.keeps hK2 (by simp; exact (hid _ (by simp [idL])).1), hT1.oo.keeps hK2 (by simp; exact (hid _ (by simp [idL])).1), hT1.oi.keeps hK2 (by simp; exact (hid _ (by simp [idL])).1)⟩
    obtain ⟨S3, hK3, h3⟩ := prog_clash (R := R) hk l ids _ hT2 (outAt l i j) hsz
    have hcl := fit.clash i hi j hj
    constructor
    · intro e he
      unfold outE at he
      cases ho : outsIn (l.take i) (outAt l i j) with
      | true =>
        rw [ho] at he
        cases he
        exact ⟨S1, hK, fun q rec => by rw [hb, ho]; rfl⟩
      | false =>
        rw [ho, hcl] at he
        cases hc : clashesS l (outAt l i j) with
        | false => rw [hc] at he; cases he
        | true =>
          rw [hc] at he
          cases he
          exact ⟨S3, hK.trans (hK2.trans (hK3.weak (fun m hm => by simp at hm))), fun q rec => by rw [hb, ho, cond_false, h3, hc]; rfl⟩
    · intro he
      unfold outE at he
      cases ho : outsIn (l.take i) (outAt l i j) with
      | true => rw [ho] at he; cases he
      | false =>
        rw [ho, hcl] at he
        cases hc : clashesS l (outAt l i j) with
        | true => rw [hc] at he; cases he
        | false =>
          refine ⟨S3, ⟨⟨⟨mapPut m (.str (outAt l i j)) (.int .i64 (i : Int)), ?_⟩, ?_⟩, ⟨hT2.o.keeps hK3 (by simp), hT2.i.keeps hK3 (by simp), hT2.oo.keeps hK3 (by simp), hT2.oi.keeps hK3 (by simp)⟩, hK.trans (hK2.trans (hK3.weak (fun m hm => by simp at hm)))⟩, fun q rec => by rw [hb, ho, cond_false, h3, hc]; rfl⟩
          · have h4 := hput.keeps hK3 (by simp)
            refine ⟨h4.at_, h4.keys, fun p => (h4.get p).trans ?_⟩
            unfold ofTo isIn
            rw [any_take _ _ (bs []) j hj, show (l.getD i .zero).act.outs.getD j (bs []) = outAt l i j from rfl]
            by_cases e : outAt l i j = p
            · simp [e, ofV]
            · simp [e]
          · exact hK3.get (hK2.get hPl (by simp) (by simp)) (by simp) (by simp)
  · unfold G.steps_open.b2
    dsimp only
    rw [lt_nat, ifB_neg (Nat.lt_irrefl _)]
end
end Go.Lm

/- Rules that are right one by one: what the program's loops need to know of them. -/
set_option maxRecDepth 100000
namespace Go.Lm
section
variable {R : Type}
def RisingB (l : List ByteArray) : Prop := ∀ i j, i < j → j < l.length → strLt (l.getD i (bs [])) (l.getD j (bs [])) = true
theorem risingB_of (l : List ByteArray) (h : ∀ i, 0 < i → i < l.length → strLt (l.getD (i - 1) (bs [])) (l.getD i (bs [])) = true) : RisingB l := by
  intro i j hij
  induction j with
  | zero => omega
  | succ j ih =>
    intro hj
    have h1 := h (j + 1) (by omega) hj
    rw [Nat.add_sub_cancel] at h1
    rcases Nat.lt_or_ge i j with h2 | h2
    · exact strLt_trans (ih h2 (by omega)) h1
    · have : i = j := by omega
      subst this; exact h1
theorem outS_none {l : List ByteArray} {i : Nat} (h : outS l i = none) : isPathS (l.getD i (bs [])) = true ∧ (0 < i → strLt (l.getD (i - 1) (bs [])) (l.getD i (bs [])) = true) := by
  unfold outS at h
  cases hp : isPathS (l.getD i (bs [])) with
  | false => rw [hp] at h; cases h
  | true =>
    rw [hp] at h
    refine ⟨rfl, fun h0 => ?_⟩
    rw [decide_eq_true h0, Bool.true_and] at h
    cases hb : strLt (l.getD i (bs [])) (l.getD (i - 1) (bs [])) || strEq (l.getD i (bs [])) (l.getD (i - 1) (bs [])) with
    | true => rw [hb] at h; cases h
    | false => exact strLt_total hb
theorem outS_pos (l : List ByteArray) (j : Nat) (r : Int) (h : outS l j = some r) : r ≠ 0 := by
  unfold outS at h
  cases hp : isPathS (l.getD j (bs [])) <;> rw [hp] at h
  · cases h; decide
  · generalize (decide (0 < j) && (strLt (l.getD j (bs [])) (l.getD (j - 1) (bs [])) || strEq (l.getD j (bs [])) (l.getD (j - 1) (bs [])))) = b at h
    cases b
    · cases h
    · cases h; decide
theorem rising_distinct {l : List ByteArray} (h : RisingB l) (j : Nat) (hj : j < l.length) : isIn (l.take j) (l.getD j (bs [])) = false := by
  cases hb : isIn (l.take j) (l.getD j (bs [])) with
  | false => rfl
  | true =>
    rw [isIn_iff] at hb
    obtain ⟨i, hi, he⟩ := List.mem_iff_getElem.1 hb
    rw [List.length_take] at hi
    have h1 := h i j (by omega) hj
    rw [show l.getD i (bs []) = l.getD j (bs []) by rw [← he, List.getElem_take, List.getD_eq_getElem?_getD, List.getElem?_eq_getElem (by omega : i < l.length)]; rfl, strLt_irrefl] at h1
    cases h1
structure OutsRight (l : List ByteArray) : Prop where
  n : l.length ≤ 100
  path : ∀ p ∈ l, isPathS p = true
  rise : RisingB l
  apart : ∀ p ∈ l, ∀ q ∈ l, liesS p q = false
theorem outs_full {l : List ByteArray} (h : outsS l = 0) : OutsRight l := by
  obtain ⟨h1, h2⟩ := outs_right h
  unfold outsS at h
  cases ha : decide (l.length = 0) with
  | true => rw [ha] at h; cases h
  | false =>
    rw [ha, cond_false] at h
    cases hb : decide (l.length > 100) with
    | true => rw [hb] at h; cases h
    | false =>
      rw [hb, cond_false] at h
      obtain ⟨h3, h4⟩ := firstE_zero (outS_pos l) h
      refine ⟨h1, h2, risingB_of l fun i h0 hi => (outS_none (h3 i hi)).2 h0, fun p hp q hq => ?_⟩
      cases hu : l.any (underS l) with
      | true => rw [hu] at h4; cases h4
      | false =>
        cases hl : liesS p q with
        | false => rfl
        | true =>
          have : l.any (underS l) = true := List.any_eq_true.2 ⟨p, hp, List.any_eq_true.2 ⟨q, hq, hl⟩⟩
          rw [this] at hu; cases hu
structure RuleRight (r : Rule) : Prop where
  name : isPathS r.name = true
  act : actS r.act = 0
  outs : OutsRight r.act.outs
  im : r.ins.length ≤ 1000
  ipath : ∀ p ∈ r.ins, isPathS p = true
  irise : RisingB r.ins
theorem rule_right {r : Rule} (h : ruleS r = 0) : RuleRight r := by
  unfold ruleS at h
  cases h1 : isPathS r.name with
  | false => rw [h1] at h; cases h
  | true =>
    rw [h1, cond_true] at h
    cases h2 : actS r.act == 0 with
    | false => rw [h2, cond_false] at h; rw [h] at h2; cases h2
    | true =>
      rw [h2, cond_true] at h
      cases h3 : decide (r.ins.length > 1000) with
      | true => rw [h3] at h; cases h
      | false =>
        rw [h3, cond_false] at h
        obtain ⟨h4, _⟩ := firstE_zero (outS_pos r.ins) h
        have h3 := of_decide_eq_false h3
        exact ⟨h1, eq_of_beq h2, outs_full (act_right (eq_of_beq h2)).outs, by omega, of_get (z := bs []) fun i hi => (outS_none (h4 i hi)).1, risingB_of _ fun i h0 hi => (outS_none (h4 i hi)).2 h0⟩
theorem RuleRight.fit {r : Rule} (h : RuleRight r) : RuleFit r :=
  ⟨h.outs.n, fun p hp => by have := path_len (h.outs.path p hp); omega, h.im, fun p hp => by have := path_len (h.ipath p hp); omega⟩
theorem name_none {l : List Rule} {i : Nat} (h : nameE l i = none) : ruleS (l.getD i .zero) = 0 ∧ (0 < i → strLt (ruleName l (i - 1)) (ruleName l i) = true) := by
  unfold nameE at h
  cases h1 : ruleS (l.getD i .zero) == 0 with
  | false => rw [h1] at h; cases h
  | true =>
    rw [h1, cond_true] at h
    refine ⟨eq_of_beq h1, fun h0 => ?_⟩
    rw [decide_eq_true h0, Bool.true_and] at h
    cases hb : strLt (ruleName l i) (ruleName l (i - 1)) || strEq (ruleName l i) (ruleName l (i - 1)) with
    | true => rw [hb] at h; cases h
    | false => exact strLt_total hb
theorem clash_same {l : List Rule} (hr : ∀ r ∈ l, RuleRight r) (i : Nat) (hi : i < l.length) (p : ByteArray) (hp : p ∈ (l.getD i .zero).act.outs) : refClash l i p = clashesS l p := by
  have hmem : ∀ k, k < l.length → l.getD k .zero ∈ l := fun k hk => rule_mem l k hk
  have hidx : ∀ r ∈ l, ∃ k, k < l.length ∧ l.getD k .zero = r := fun r h => by
    obtain ⟨k, hk, e⟩ := List.mem_iff_getElem.1 h
    exact ⟨k, hk, by rw [List.getD_eq_getElem?_getD, List.getElem?_eq_getElem hk]; exact e⟩
  rw [Bool.eq_iff_iff]
  unfold refClash clashesS overIns
  rw [List.any_eq_true, Bool.or_eq_true, List.any_eq_true, List.any_eq_true]
  constructor
  · rintro ⟨k, hk, h⟩
    rw [List.mem_range] at hk
    unfold clashAt clashOuts clashIns at h
    rw [Bool.or_eq_true, Bool.and_eq_true, List.any_eq_true, List.any_eq_true] at h
    rcases h with ⟨_, q, hq, hl⟩ | ⟨q, hq, hl⟩
    · refine .inr ⟨q, (mem_above p q).2 hl, ?_⟩
      rw [Bool.or_eq_true]
      exact .inl (List.any_eq_true.2 ⟨_, hmem k hk, (isIn_iff _ _).2 hq⟩)
    · rw [Bool.or_eq_true] at hl
      rcases hl with hl | hl
      · refine .inr ⟨q, (mem_above p q).2 hl, ?_⟩
        rw [Bool.or_eq_true]
        exact .inr (List.any_eq_true.2 ⟨_, hmem k hk, (isIn_iff _ _).2 hq⟩)
      · exact .inl ⟨_, hmem k hk, by rw [over_lies]; exact List.any_eq_true.2 ⟨q, hq, hl⟩⟩
  · rintro (⟨r, hrl, h⟩ | ⟨q, hq, h⟩)
    · obtain ⟨k, hk, e⟩ := hidx r hrl
      rw [over_lies, List.any_eq_true] at h
      obtain ⟨q, hq, hl⟩ := h
      refine ⟨k, List.mem_range.2 hk, ?_⟩
      unfold clashAt clashIns
      rw [Bool.or_eq_true, List.any_eq_true]
      exact .inr ⟨q, by rw [e]; exact hq, by rw [hl, Bool.or_true]⟩
    · have hl := (mem_above p q).1 hq
      rw [Bool.or_eq_true] at h
      unfold outsIn insIn at h
      rw [List.any_eq_true, List.any_eq_true] at h
      rcases h with ⟨r, hrl, h⟩ | ⟨r, hrl, h⟩
      · obtain ⟨k, hk, e⟩ := hidx r hrl
        rw [isIn_iff] at h
        refine ⟨k, List.mem_range.2 hk, ?_⟩
        unfold clashAt clashOuts
        rw [Bool.or_eq_true, Bool.and_eq_true, List.any_eq_true]
        refine .inl ⟨?_, q, by rw [e]; exact h, hl⟩
        cases hki : k == i with
        | false => rfl
        | true =>
          have : k = i := eq_of_beq hki
          subst this
          rw [e] at hp
          rw [(hr r hrl).outs.apart p hp q h] at hl
          cases hl
      · obtain ⟨k, hk, e⟩ := hidx r hrl
        rw [isIn_iff] at h
        refine ⟨k, List.mem_range.2 hk, ?_⟩
        unfold clashAt clashIns
        rw [Bool.or_eq_true, List.any_eq_true]
        exact .inr ⟨q, by rw [e]; exact h, by rw [hl, Bool.true_or]⟩
theorem firstE_none' {step : Nat → Option Int} {n : Nat} (h : firstE step n = none) : ∀ j, j < n → step j = none := fun j hj => firstE_none n 0 h j (Nat.zero_le _) (by omega)
theorem rules_right {l : List Rule} (h : firstE (nameE l) l.length = none) : ∀ r ∈ l, RuleRight r :=
  of_get (z := Rule.zero) fun i hi => rule_right (name_none (firstE_none' h i hi)).1
theorem rules_fit {l : List Rule} (hn : l.length ≤ 500) (hr : ∀ r ∈ l, RuleRight r) : RulesFit l :=
  ⟨hn, fun r h => (hr r h).fit, fun r h j hj => rising_distinct (hr r h).outs.rise j hj, fun i hi j hj => clash_same hr i hi _ (str_mem _ j hj)⟩
theorem op_b1 {k : Nat} (hk : Many k) (l : List Rule) (fit : RulesFit l) (id : Nat) (ids : Ids) (hid : ∀ x ∈ idL ids, x ≠ id ∧ x ≠ id + 1) (S : List LV) (hP : PlanAt S id l (ofN l 0) .nilsl) (hT : Tang S ids (outsIn l) (insIn l) (overOuts l) (overIns l)) :
    ∃ S', (∀ e, allOutE l = some e → Keeps S S' [id]) ∧ (allOutE l = none → PlanAt S' id l (ofN l l.length) .nilsl ∧ Keeps S S' [id]) ∧
      ∀ q : (List LV × (Nat × Nat) × Unit → List LV → Option R) × (LV × Int × Unit → List LV → Option R), rounds (G.steps_open.b1 k q.1 q.2) k (l.map Rule.lv, (id + 1, 0), ids, l.map Rule.lv, (l.length : Int), 0, ()) S =
        (match allOutE l with | some e => q.2 (.nilp, e, ()) S' | none => q.1 (l.map Rule.lv, (id + 1, 0), ()) S') := by
  have hk' := hk
  unfold Many at hk'
  have hn := fit.n
  have hl := loop_inv (R := R) (ε := Int) (b := fun (q : (List LV × (Nat × Nat) × Unit → List LV → Option R) × (LV × Int × Unit → List LV → Option R)) => G.steps_open.b1 k q.1 q.2) (x := fun i => (l.map Rule.lv, (id + 1, 0), ids, l.map Rule.lv, (l.length : Int), (i : Int), ())) (n := l.length)
    (Inv := fun i S1 => PlanAt S1 id l (ofN l i) .nilsl ∧ Tang S1 ids (outsIn l) (insIn l) (overOuts l) (overIns l) ∧ Keeps S S1 [id])
    (PE := fun _ S1 => Keeps S S1 [id]) (e := ruleOutE l)
    (out := fun q o S' => match o with | some e => q.2 (.nilp, e, ()) S' | none => q.1 (l.map Rule.lv, (id + 1, 0), ()) S')
    (fun i S1 hi hI => ?_) (fun q rec S1 hI => ?_) l.length 0 k S (by omega) (by omega) ⟨hP, hT, Keeps.refl _ _⟩
  · obtain ⟨S', h1, h2, h3⟩ := hl
    exact ⟨S', h1, fun hn => ⟨(h2 hn).1, (h2 hn).2.2⟩, h3⟩
  · obtain ⟨hP1, hT1, hK⟩ := hI
    obtain ⟨S2, h1, h2, h3⟩ := op_b2 (R := R) hk l fit id ids hid i hi (i : Int) S1 hP1 hT1
    have hb : ∀ (q : (List LV × (Nat × Nat) × Unit → List LV → Option R) × (LV × Int × Unit → List LV → Option R)) rec, G.steps_open.b1 k q.1 q.2 rec (l.map Rule.lv, (id + 1, 0), ids, l.map Rule.lv, (l.length : Int), (i : Int), ()) S1 =
        (match ruleOutE l i with | some e => q.2 (.nilp, e, ()) S2 | none => rec (l.map Rule.lv, (id + 1, 0), ids, l.map Rule.lv, (l.length : Int), ((i + 1 : Nat) : Int), ()) S2) := fun q rec => by
      unfold G.steps_open.b1
      dsimp only
      rw [lt_nat, ifB_pos hi, idxL_nat (by simpa using hi), rule_get l i hi, Rule.mat, rule_cells, List.length_map]
      refine (h3 (_, _)).trans ?_
      cases ruleOutE l i with
      | some e => rfl
      | none =>
        dsimp only
        rw [wrap_succ (by omega)]
    exact ⟨fun e he => ⟨S2, hK.trans (h1 e he), fun q rec => by rw [hb, he]⟩, fun he => ⟨S2, ⟨(h2 he).1, (h2 he).2.1, hK.trans (h2 he).2.2⟩, fun q rec => by rw [hb, he]⟩⟩
  · unfold G.steps_open.b1
    dsimp only
    rw [lt_nat, ifB_neg (Nat.lt_irrefl _)]
end
end Go.Lm

/- The program: who needs whom, by sets of numbers. -/
set_option maxRecDepth 100000
namespace Go.Lm
section
variable {R : Type}
def KeysI (m : List (LV × LV)) (ks : List Nat) : Prop := m.map Prod.fst = ints ks
theorem KeysI.put : ∀ {m : List (LV × LV)} {ks : List Nat} (_ : KeysI m ks) (a : Nat) (v : LV), KeysI (mapPut m (.int .i64 (a : Int)) v) (cond (ks.contains a) ks (ks ++ [a]))
  | [], ks, h, a, v => by
    have : ks = [] := by
      cases ks with
      | nil => rfl
      | cons x ks => cases h
    subst this; rfl
  | (x, y) :: m, [], h, a, v => by cases h
  | (x, y) :: m, k :: ks, h, a, v => by
    unfold KeysI ints at h
    rw [List.map_cons, List.map_cons] at h
    injection h with h1 h2
    have h1 : x = .int .i64 (k : Int) := h1
    subst h1
    have ih := KeysI.put (m := m) (ks := ks) h2 a v
    unfold KeysI at ih ⊢
    simp only [mapPut, keyEq]
    by_cases e : k = a
    · subst e
      rw [decide_eq_true rfl]
      simp only [List.contains_cons, beq_self_eq_true, Bool.true_or, cond_true]
      rw [List.map_cons]
      unfold ints
      rw [List.map_cons, h2]
    · rw [decide_eq_false (by omega)]
      simp only [List.contains_cons, show (a == k) = false by simp; omega, Bool.false_or]
      rw [List.map_cons, ih]
      cases ks.contains a <;> rfl
structure IsSetI (S : List LV) (id n : Nat) (P : Nat → Bool) : Prop where
  ex : ∃ m ks, S.getD id .any = .mp (.int .i64) m ∧ KeysI m ks ∧ ks.Nodup ∧ ∀ k, k ∈ ks ↔ k < n ∧ P k = true
theorem IsSetI.keeps {S S' : List LV} {id n : Nat} {P : Nat → Bool} {M : List Nat} (h : IsSetI S id n P) (hk : Keeps S S' M) (hm : id ∉ M) : IsSetI S' id n P := by
  obtain ⟨m, ks, h1, h2⟩ := h.ex
  exact ⟨m, ks, hk.get h1 (by simp) hm, h2⟩
theorem IsSetI.put {S : List LV} {id n : Nat} {P : Nat → Bool} (h : IsSetI S id n P) (a : Nat) (ha : a < n) : ∃ S', IsSetI S' id n (fun k => P k || decide (a = k)) ∧ Keeps S S' [id] ∧
    ∀ K : List LV → Option R, (mpAt S id (.int .i64) fun m => setS (S.set id (.mp (.int .i64) (mapPut m (.int .i64 (a : Int)) (.bool true)))) K) = K S' := by
  obtain ⟨m, ks, h1, h2, h3, h4⟩ := h.ex
  refine ⟨_, ⟨mapPut m (.int .i64 (a : Int)) (.bool true), cond (ks.contains a) ks (ks ++ [a]), get_set (lt_get h1 (by simp)), h2.put a _, ?_, fun k => ?_⟩, Keeps.set S id (.mp (.int .i64) (mapPut m (.int .i64 (a : Int)) (.bool true))), fun K => ?_⟩
  · cases hc : ks.contains a with
    | true => exact h3
    | false =>
      have hn : a ∉ ks := by simpa using hc
      show (ks ++ [a]).Nodup
      rw [List.nodup_append]
      refine ⟨h3, by simp, fun x hx y hy => ?_⟩
      simp at hy
      subst hy
      exact fun e => hn (e ▸ hx)
  · rw [Bool.or_eq_true, decide_eq_true_iff]
    cases hc : ks.contains a with
    | true =>
      have hin : a ∈ ks := by simpa using hc
      show k ∈ ks ↔ _
      rw [h4]
      constructor
      · exact fun h => ⟨h.1, .inl h.2⟩
      · rintro ⟨h5, h6 | h6⟩
        · exact ⟨h5, h6⟩
        · subst h6; exact (h4 _).1 hin
    | false =>
      show k ∈ ks ++ [a] ↔ _
      rw [List.mem_append, h4]
      constructor
      · rintro (h5 | h5)
        · exact ⟨h5.1, .inl h5.2⟩
        · simp at h5; subst h5; exact ⟨ha, .inr rfl⟩
      · rintro ⟨h5, h6 | h6⟩
        · exact .inl ⟨h5, h6⟩
        · exact .inr (by simp [h6])
  · unfold mpAt
    rw [h1]; rfl
theorem IsSetI.congr {S : List LV} {id n : Nat} {P P' : Nat → Bool} (h : IsSetI S id n P) (hp : ∀ p, P p = P' p) : IsSetI S id n P' := by
  have : P = P' := funext hp
  rw [← this]; exact h
def natZ (l : List Nat) : List Int := l.map fun (k : Nat) => (k : Int)
/-- The keys, sorted. -/
theorem IsSetI.sorted {S : List LV} {id n : Nat} {P : Nat → Bool} (h : IsSetI S id n P) (hn : n ≤ 500) : ∃ m, S.getD id .any = .mp (.int .i64) m ∧ H.keyIok m = true ∧ sortI m = natZ ((List.range n).filter P) := by
  obtain ⟨m, ks, h1, h2, h3, h4⟩ := h.ex
  have hp : ks.Perm ((List.range n).filter P) := (List.perm_ext_iff_of_nodup h3 (List.nodup_range.sublist List.filter_sublist)).2 fun k => by
    rw [h4, List.mem_filter, List.mem_range]
  have hk : m.map (fun kv => keyI kv.1) = natZ ks := by
    have : m.map (fun kv => keyI kv.1) = (m.map Prod.fst).map keyI := by rw [List.map_map]; rfl
    rw [this, h2]
    unfold ints natZ
    rw [List.map_map]; rfl
  have hlen : m.length = ks.length := by have := congrArg List.length h2; simpa [ints] using this
  have hl : ks.length ≤ n := by
    rw [hp.length_eq]
    have := List.length_filter_le P (List.range n)
    rwa [List.length_range] at this
  refine ⟨m, h1, ?_, ?_⟩
  · unfold H.keyIok
    rw [Bool.and_eq_true, decide_eq_true_iff, List.all_eq_true]
    refine ⟨by omega, fun kv hkv => decide_eq_true ?_⟩
    have : keyI kv.1 ∈ natZ ks := by rw [← hk]; exact List.mem_map.2 ⟨kv, hkv, rfl⟩
    obtain ⟨k, hks, e⟩ := List.mem_map.1 this
    have := ((h4 k).1 hks).1
    rw [← e]
    constructor <;> omega
  · unfold sortI
    rw [hk, sort_perm (r := fun (a b : Int) => a ≤ b) (fun a b c h1 h2 => Int.le_trans h1 h2) (fun a b => Int.le_total a b) (fun a b h1 h2 => Int.le_antisymm h1 h2) (l := natZ ks) (l' := natZ ((List.range n).filter P)) (hp.map _)]
    refine List.mergeSort_of_pairwise ?_
    show List.Pairwise (fun a b => decide (a ≤ b) = true) (List.map (fun (k : Nat) => (k : Int)) ((List.range n).filter P))
    rw [List.pairwise_map]
    refine (List.pairwise_lt_range.filter P).imp fun {a b} h => ?_
    simp; omega
/-! ### The needs of one rule -/
theorem ofN_lt (l : List Rule) (p : ByteArray) : ∀ i k, ofN l i p = some k → k < i
  | 0, _, h => by cases h
  | i + 1, k, h => by
    have h : cond (isIn (l.getD i .zero).act.outs p) (some i) (ofN l i p) = some k := h
    cases hb : isIn (l.getD i .zero).act.outs p with
    | true => rw [hb] at h; cases h; omega
    | false => rw [hb] at h; have := ofN_lt l p i k h; omega
def usesP (l : List Rule) (q : List ByteArray) (k : Nat) : Bool := q.any fun p => decide (ofN l l.length p = some k)
theorem op_b4 {k : Nat} (hk : Many k) (l : List Rule) (hn : l.length ≤ 500) (id mid : Nat) (hid : mid ≠ id ∧ mid ≠ id + 1) (deps : LV) (q : List ByteArray) (hq : q.length ≤ 1000) (ls : List LV) (n i : Int) (S : List LV) (hP : PlanAt S id l (ofN l l.length) deps) (hM : IsSetI S mid l.length (fun _ => false)) :
    ∃ S', (PlanAt S' id l (ofN l l.length) deps ∧ IsSetI S' mid l.length (usesP l q) ∧ Keeps S S' [mid]) ∧
      ∀ J : (Nat × Nat) × Nat × List LV × Int × Int × Unit → List LV → Option R, rounds (G.steps_open.b4 k J) k ((id + 1, 0), mid, ls, n, i, q.map .str, (q.length : Int), 0, ()) S = J ((id + 1, 0), mid, ls, n, i, ()) S' := by
  have hk' := hk
  unfold Many at hk'
  have hl := loop_all (R := R) (b := fun J => G.steps_open.b4 k J) (x := fun t => ((id + 1, 0), mid, ls, n, i, q.map LV.str, (q.length : Int), (t : Int), ())) (n := q.length)
    (Inv := fun t S1 => PlanAt S1 id l (ofN l l.length) deps ∧ IsSetI S1 mid l.length (usesP l (q.take t)) ∧ Keeps S S1 [mid])
    (out := fun (J : (Nat × Nat) × Nat × List LV × Int × Int × Unit → List LV → Option R) S' => J ((id + 1, 0), mid, ls, n, i, ()) S')
    (fun t S1 ht hI => ?_) (fun J rec S1 hI => ?_) k (by omega) S ⟨hP, hM.congr (fun p => by simp [usesP]), Keeps.refl _ _⟩
  · obtain ⟨S', ⟨h1, h2, h3⟩, h4⟩ := hl
    rw [List.take_length] at h2
    exact ⟨S', ⟨h1, h2, h3⟩, h4⟩
  · obtain ⟨hP1, hM1, hK⟩ := hI
    obtain ⟨⟨m, hMap⟩, hPl⟩ := hP1
    have hb : ∀ (J : (Nat × Nat) × Nat × List LV × Int × Int × Unit → List LV → Option R) rec, G.steps_open.b4 k J rec ((id + 1, 0), mid, ls, n, i, q.map LV.str, (q.length : Int), (t : Int), ()) S1 =
        ifB (ofN l l.length (q.getD t (bs []))).isSome (mpAt S1 mid (.int .i64) fun m => setS (S1.set mid (.mp (.int .i64) (mapPut m (.int .i64 (((ofN l l.length (q.getD t (bs []))).getD 0 : Nat) : Int)) (.bool true)))) fun S => rec ((id + 1, 0), mid, ls, n, i, q.map LV.str, (q.length : Int), ((t + 1 : Nat) : Int), ()) S) (rec ((id + 1, 0), mid, ls, n, i, q.map LV.str, (q.length : Int), ((t + 1 : Nat) : Int), ()) S1) := fun J rec => by
      unfold G.steps_open.b4
      dsimp only
      rw [lt_nat, ifB_pos ht, idxL_nat (by simpa using ht), map_str_get _ t ht, asLeaf_str, at_of hPl, plan_map, asMap_map, hMap.mp, hMap.get, of_int, of_some, wrap_succ (by omega)]
    cases ho : ofN l l.length (q.getD t (bs [])) with
    | none =>
      refine ⟨S1, ⟨⟨⟨m, hMap⟩, hPl⟩, hM1.congr fun p => ?_, hK⟩, fun J rec => by rw [hb, ho]; rfl⟩
      unfold usesP
      rw [any_take _ q (bs []) t ht, ho]
      simp
    | some a =>
      have ha := ofN_lt l _ _ _ ho
      obtain ⟨S2, h1, h2, h3⟩ := hM1.put (R := R) a ha
      refine ⟨S2, ⟨⟨⟨m, hMap.keeps h2 (by simp; exact Ne.symm hid.1)⟩, h2.get hPl (by simp) (by simp; exact Ne.symm hid.2)⟩, h1.congr fun p => ?_, hK.trans h2⟩, fun J rec => ?_⟩
      · unfold usesP
        rw [any_take _ q (bs []) t ht, ho]
        simp
      · rw [hb, ho]
        exact h3 _
  · unfold G.steps_open.b4
    dsimp only
    rw [lt_nat, ifB_neg (Nat.lt_irrefl _)]
end
end Go.Lm

/- The program: the rows of needs. -/
set_option maxRecDepth 100000
namespace Go.Lm
section
variable {R : Type}
def rowS (r : List Nat) : LV := .sl 1 (ints r)
def depsV (rows : List (List Nat)) : LV := match rows with
  | [] => .nilsl
  | rows => .own 45 1 (rows.map rowS)
theorem depsV_own (rows : List (List Nat)) (K : List LV → Option R) : asOwn 45 1 (depsV rows) K = K (rows.map rowS) := by
  cases rows <;> rfl
theorem depsV_snoc (rows : List (List Nat)) (r : List Nat) : LV.own 45 1 ((rows ++ [r]).map rowS) = depsV (rows ++ [r]) := by
  cases rows <;> rfl
def depsOf (l : List Rule) (i : Nat) : List Nat := (List.range l.length).filter (usesP l (l.getD i .zero).ins)
def depsTo (l : List Rule) (t : Nat) : List (List Nat) := (List.range t).map (depsOf l)
theorem depsTo_succ (l : List Rule) (t : Nat) : depsTo l (t + 1) = depsTo l t ++ [depsOf l t] := by
  unfold depsTo
  rw [List.range_succ, List.map_append]; rfl
theorem depsTo_len (l : List Rule) (t : Nat) : (depsTo l t).length = t := by simp [depsTo]
theorem set_get (S : List LV) (h : Nat) (T : List LV) (hh : h < S.length) : (S.set h .any ++ T).set h (S.getD h .any) = S ++ T := by
  rw [List.set_append_left _ _ (by simpa using hh), List.set_set]
  congr 1
  apply List.ext_getElem?
  intro j
  rw [List.getElem?_set]
  by_cases e : h = j
  · subst e
    simp [hh, List.getD_eq_getElem?_getD]
  · simp [e]
theorem hidR_set (S : List LV) (h : Nat) (T : List LV) (hh : h < S.length) (K : List LV → Option R) : hidR h (S.getD h .any) (S.set h .any ++ T) K = K (S ++ T) := by
  unfold hidR
  rw [show Nat.blt h (S.set h .any ++ T).length = true from Nat.ble_eq_true_of_le (by simp; omega), ifB_true, set_get S h T hh]
theorem hidR_set0 (S : List LV) (h : Nat) (hh : h < S.length) (K : List LV → Option R) : hidR h (S.getD h .any) (S.set h .any) K = K S := by
  have := hidR_set S h [] hh K
  rwa [List.append_nil, List.append_nil] at this
theorem op_b3 {k : Nat} (hk : Many k) (l : List Rule) (fit : RulesFit l) (id : Nat) (S : List LV) (hP : PlanAt S id l (ofN l l.length) .nilsl) :
    ∃ S', (PlanAt S' id l (ofN l l.length) (depsV (depsTo l l.length)) ∧ Keeps S S' [id + 1]) ∧
      ∀ J : (Nat × Nat) × Unit → List LV → Option R, rounds (G.steps_open.b3 k J) k ((id + 1, 0), l.map Rule.lv, (l.length : Int), 0, ()) S = J ((id + 1, 0), ()) S' := by
  have hk' := hk
  unfold Many at hk'
  have hn := fit.n
  refine loop_all (R := R) (b := fun J => G.steps_open.b3 k J) (x := fun t => ((id + 1, 0), l.map Rule.lv, (l.length : Int), (t : Int), ())) (n := l.length)
    (Inv := fun t S1 => PlanAt S1 id l (ofN l l.length) (depsV (depsTo l t)) ∧ Keeps S S1 [id + 1])
    (out := fun (J : (Nat × Nat) × Unit → List LV → Option R) S' => J ((id + 1, 0), ()) S')
    (fun t S1 ht hI => ?_) (fun J rec S1 hI => ?_) k (by omega) S ⟨hP, Keeps.refl _ _⟩
  · obtain ⟨hP1, hK⟩ := hI
    have hid1 : id + 1 < S1.length := lt_get hP1.plan (by simp)
    have hid0 : id < S1.length := by omega
    have hK2 : Keeps S1 (S1 ++ [.mp (.int .i64) []]) [] := Keeps.app _ _ _
    have hM0 : IsSetI (S1 ++ [.mp (.int .i64) []]) S1.length l.length (fun _ => false) := ⟨[], [], get_end _ _, rfl, List.nodup_nil, fun k => by simp⟩
    obtain ⟨S3, ⟨hP3, hM3, hK3⟩, h3⟩ := op_b4 (R := R) hk l hn id S1.length ⟨by omega, by omega⟩ _ (l.getD t .zero).ins (fit.fit _ (rule_mem l t ht)).im (l.map Rule.lv) (l.length : Int) (t : Int) _ (hP1.keeps hK2 (by simp) (by simp)) hM0
    have hl3 : S1.length + 1 ≤ S3.length := by have := hK3.1; simp at this; omega
    let rows := (depsTo l t).map rowS
    let S4 := S3.set (id + 1) (.obj 66 [.sl 8 (l.map Rule.lv), .map id, .sl 1 rows])
    have hl4 : S4.length = S3.length := by simp [S4]
    let S5 := S4 ++ [.obj 94 [.map S1.length]]
    let rows2 := (depsTo l (t + 1)).map rowS
    let S6 := S5.set (id + 1) (.obj 66 [.sl 8 (l.map Rule.lv), .map id, .own 45 1 rows2])
    have hp4 : S4.getD (id + 1) .any = .obj 66 [.sl 8 (l.map Rule.lv), .map id, .sl 1 rows] := get_set (by omega)
    have hp5 : S5.getD (id + 1) .any = .obj 66 [.sl 8 (l.map Rule.lv), .map id, .sl 1 rows] := get_app _ hp4 (by simp)
    have hK34 : Keeps S3 S4 [id + 1] := Keeps.set _ _ _
    have hK45 : Keeps S4 S5 [] := Keeps.app _ _ _
    have hK56 : Keeps S5 S6 [id + 1] := Keeps.set _ _ _
    have hK36 : Keeps S3 S6 [id + 1] := hK34.trans ((hK45.weak (fun m hm => by simp at hm)).trans hK56)
    obtain ⟨m, hm1, hm2, hm3⟩ := hM3.sorted hn
    have hm5 : (S5.set (id + 1) .any).getD S1.length .any = .mp (.int .i64) m := by
      rw [other_set (by omega)]
      exact hK45.get (hK34.get hm1 (by simp) (by simp; omega)) (by simp) (by simp)
    have ho5 : (S5.set (id + 1) .any).getD S4.length .any = .obj 94 [.map S1.length] := by
      rw [other_set (by omega)]
      exact get_end _ _
    refine ⟨S6, ⟨?_, hK.trans (((hK2.weak (fun m hm => by simp at hm)).trans (hK3.weak ?_ : Keeps _ _ [S1.length, id + 1])).trans (hK36.weak (fun m hm => .inl (by simp at hm; simp [hm]))) |>.weak ?_)⟩, fun J rec => ?_⟩
    · obtain ⟨⟨m0, hm0⟩, _⟩ := hP3
      refine ⟨⟨m0, hm0.keeps hK36 (by simp)⟩, ?_⟩
      rw [show S6.getD (id + 1) .any = _ from get_set (by simp [S5]; omega)]
      show LV.obj 66 [_, _, .own 45 1 ((depsTo l (t + 1)).map rowS)] = _
      rw [depsTo_succ, depsV_snoc]
    · intro m hm; left; simp at hm; simp [hm]
    · intro m hm
      simp at hm
      rcases hm with rfl | rfl
      · right; exact Nat.le_refl _
      · left; simp
    · unfold G.steps_open.b3
      dsimp only
      rw [lt_nat, ifB_pos ht, idxL_nat (by simpa using ht), rule_get l t ht, Rule.mat, rule_cells]
      unfold newObj
      rw [List.length_map]
      refine (h3 _).trans ?_
      dsimp only
      rw [Nat.beq_refl, ifB_true, at_of hP3.plan]
      have e : ∀ K : List LV → Option R, asOwn 45 1 (([LV.sl 8 (l.map Rule.lv), .map id, depsV (depsTo l t)] : List LV).getD (0 + 2) .any) K = K rows := fun K => depsV_own _ K
      rw [e, setS_of]
      unfold G.maps_Keys_map_int_bool_int_bool.fn newObj
      dsimp only
      rw [show S3.set (id + 1) (LV.obj 66 (([LV.sl 8 (l.map Rule.lv), .map id, depsV (depsTo l t)] : List LV).set (0 + 2) (.sl 1 rows))) = S4 from rfl]
      rw [hidR_set S4 (id + 1) _ (by omega), List.length_set]
      unfold H.SortedI.fn sortedIF
      dsimp only
      rw [show S4 ++ [LV.obj 94 [.map S1.length]] = S5 from rfl, ho5]
      dsimp only
      rw [hm5]
      dsimp only
      rw [Nat.beq_refl, hm2]
      rw [show (true && true) = true from rfl]
      dsimp only
      rw [hidR_set0 S5 (id + 1) (by simp [S5]; omega), hm3]
      have e3 : (natZ ((List.range l.length).filter (usesP l (l.getD t .zero).ins))).map (fun n => LV.int .i64 n) = ints (depsOf l t) := by
        unfold natZ ints depsOf
        rw [List.map_map]; rfl
      rw [e3, app_one (by simp [rows, depsTo_len]; omega) (by simp [rows, depsTo_len]; omega), at_of hp5]
      have e4 : rows ++ [LV.sl 1 (ints (depsOf l t))] = rows2 := by
        show (depsTo l t).map rowS ++ [rowS (depsOf l t)] = (depsTo l (t + 1)).map rowS
        rw [depsTo_succ, List.map_append]; rfl
      have e5 : ∀ (v : LV) (K : List LV → Option R), stO [LV.sl 8 (l.map Rule.lv), .map id, .sl 1 rows] (0 + 2) [v] K = K [.sl 8 (l.map Rule.lv), .map id, v] := fun v K => rfl
      rw [e4, e5, setS_of, wrap_succ (by omega)]
  · unfold G.steps_open.b3
    dsimp only
    rw [lt_nat, ifB_neg (Nat.lt_irrefl _)]
end
end Go.Lm

/- The program's order: what is left for each, who uses whom. -/
set_option maxRecDepth 100000
namespace Go.Lm
section
variable {R : Type}
def IntsObj (S : List LV) (id n : Nat) (g : Nat → Int) : Prop := S.getD id .any = .obj 3 ((List.range n).map fun i => LV.int .i64 (g i))
def intsO (n : Nat) (g : Nat → Int) : LV := .obj 3 ((List.range n).map fun i => LV.int .i64 (g i))
def rowsO (n : Nat) (f : Nat → List Nat) : LV := .obj 45 ((List.range n).map fun i => rowR (f i))
def updF {α : Type} (g : Nat → α) (i : Nat) (v : α) (j : Nat) : α := cond (j == i) v (g j)
theorem range_get {n i : Nat} (h : i < n) (g : Nat → LV) : ((List.range n).map g).getD i .any = g i := by simp [List.getD_eq_getElem?_getD, h]
theorem range_len (n : Nat) (g : Nat → LV) : ((List.range n).map g).length = n := by simp
theorem IntsObj.ld {S : List LV} {id n : Nat} {g : Nat → Int} (h : IntsObj S id n g) {i : Nat} (hi : i < n) (K : Int → Option R) : (objAt S id fun _ c => ldInt .i64 c (0 + i * 1) K) = K (g i) := by
  rw [at_of h]
  unfold ldInt
  rw [Nat.zero_add, Nat.mul_one, range_len, show Nat.blt i n = true from Nat.ble_eq_true_of_le hi, ifB_true, range_get hi]
  exact asInt_int _ _ _
theorem IntsObj.st {S : List LV} {id n : Nat} {g : Nat → Int} (h : IntsObj S id n g) {i : Nat} (hi : i < n) (v : Int) (K : List LV → Option R) :
    (objAt S id fun ty c => stO c (0 + i * 1) [.int .i64 v] fun c' => setS (S.set id (ty c')) K) = K (S.set id (intsO n (updF g i v))) := by
  rw [at_of h]
  unfold stO
  rw [Nat.zero_add, Nat.mul_one, show Nat.ble (i + ([LV.int .i64 v] : List LV).length) ((List.range n).map fun i => LV.int .i64 (g i)).length = true from Nat.ble_eq_true_of_le (by simp; omega), ifB_true]
  dsimp only
  rw [setFrom_one _ _ _ (by simp; omega), set_range, setS_of]
  congr 3
  congr 1
  funext j
  unfold updF
  cases j == i <;> rfl
theorem IntsObj.of (S : List LV) (id n : Nat) (g : Nat → Int) (h : id < S.length) : IntsObj (S.set id (intsO n g)) id n g := get_set h
theorem RowsObj.of (S : List LV) (id n : Nat) (f : Nat → List Nat) (h : id < S.length) : RowsObj (S.set id (rowsO n f)) id n f := get_set h
theorem RowsObj.app {S : List LV} {id n : Nat} {f : Nat → List Nat} (h : RowsObj S id n f) {i : Nat} (hi : i < n) (a : Nat) (hl : (f i).length ≤ 500) (K : List LV → Option R) :
    (idxN n (i : Int) fun v => objAt S id fun ty c => asOwn 3 1 (c.getD (0 + v * 1) .any) fun l => setS (S.set id (ty (c.set (0 + v * 1) (.sl 1 l)))) fun S => app 8 l [.int .i64 (a : Int)] fun l2 => idxN n (i : Int) fun w => objAt S id fun ty c2 => stO c2 (0 + w * 1) [.own 3 1 l2] fun c3 => setS (S.set id (ty c3)) K) =
      K (S.set id (rowsO n (updF f i (f i ++ [a])))) := by
  rw [idxN_nat hi, at_of h, Nat.zero_add, Nat.mul_one, range_get hi, rowR_own, setS_of, app_one (by rw [ints_len]; omega) (by rw [ints_len]; omega), ints_snoc, idxN_nat hi, at_of (has_set h _)]
  unfold stO
  rw [Nat.zero_add, Nat.mul_one, show Nat.ble (i + ([LV.own 3 1 (ints (f i ++ [a]))] : List LV).length) (((List.range n).map fun j => rowR (f j)).set i (.sl 1 (ints (f i)))).length = true from Nat.ble_eq_true_of_le (by simp; omega), ifB_true]
  dsimp only
  rw [setS_of, setFrom_one _ _ _ (by simp; omega), List.set_set, List.set_set, set_range]
  congr 3
  congr 1
  funext j
  unfold updF
  cases j == i with
  | true => exact rowR_snoc _ _
  | false => rfl
theorem RowsObj.ld {S : List LV} {id n : Nat} {f : Nat → List Nat} (h : RowsObj S id n f) {i : Nat} (hi : i < n) (K : List LV → Option R) : (objAt S id fun _ c => ldSl 1 c (0 + i * 1) K) = K (ints (f i)) := by
  rw [at_of h]
  unfold ldSl
  rw [Nat.zero_add, Nat.mul_one, range_len, show Nat.blt i n = true from Nat.ble_eq_true_of_le hi, ifB_true, range_get hi]
  cases f i with
  | nil => rfl
  | cons a l => exact asSl_sl 1 _ K
/-- Users, when i rules and j needs of the next one are seen. -/
def usersTo (D : List (List Nat)) (inn : List Bool) (t k : Nat) : List Nat := (List.range t).filter fun i => inn.getD i false && (D.getD i []).contains k
def usersIn (D : List (List Nat)) (inn : List Bool) (i j k : Nat) : List Nat := usersTo D inn i k ++ cond (((D.getD i []).take j).contains k) [i] []
def leftTo (D : List (List Nat)) (inn : List Bool) (t i : Nat) : Int := cond (decide (i < t) && inn.getD i false) (((D.getD i []).length : Nat) : Int) 0
theorem usersTo_len (D : List (List Nat)) (inn : List Bool) (t k : Nat) : (usersTo D inn t k).length ≤ t := by
  have := List.length_filter_le (fun i => inn.getD i false && (D.getD i []).contains k) (List.range t)
  rw [List.length_range] at this
  exact this
theorem usersTo_succ (D : List (List Nat)) (inn : List Bool) (t k : Nat) : usersTo D inn (t + 1) k = usersTo D inn t k ++ cond (inn.getD t false && (D.getD t []).contains k) [t] [] := by
  unfold usersTo
  rw [List.range_succ, List.filter_append, List.filter_cons]
  cases (inn.getD t false && (D.getD t []).contains k) <;> simp
structure Rows (D : List (List Nat)) : Prop where
  small : Small D
  nodup : ∀ r ∈ D, r.Nodup
theorem Rows.get {D : List (List Nat)} (h : Rows D) (i : Nat) (hi : i < D.length) : (D.getD i []).Nodup :=
  h.nodup _ (by rw [List.getD_eq_getElem?_getD, List.getElem?_eq_getElem hi]; exact List.getElem_mem hi)
theorem take_contains (r : List Nat) (j : Nat) (hj : j < r.length) (k : Nat) : (r.take (j + 1)).contains k = ((r.take j).contains k || (k == r.getD j 0)) := by
  rw [List.take_add_one, List.getElem?_eq_getElem hj, List.getD_eq_getElem?_getD, List.getElem?_eq_getElem hj]
  simp only [Option.toList_some, Option.getD_some]
  rw [Bool.eq_iff_iff, List.contains_iff_mem, List.mem_append, Bool.or_eq_true, List.contains_iff_mem, beq_iff_eq, List.mem_singleton]
theorem nat_mem (l : List Nat) (j : Nat) (h : j < l.length) : l.getD j 0 ∈ l := by
  rw [List.getD_eq_getElem?_getD, List.getElem?_eq_getElem h]; exact List.getElem_mem h
theorem nodup_take {r : List Nat} (h : r.Nodup) (j : Nat) (hj : j < r.length) : (r.take j).contains (r.getD j 0) = false := by
  cases hb : (r.take j).contains (r.getD j 0) with
  | false => rfl
  | true =>
    have hm : r.getD j 0 ∈ r.take j := by simpa using hb
    obtain ⟨i, hi, he⟩ := List.mem_iff_getElem.1 hm
    rw [List.length_take] at hi
    rw [List.getElem_take, List.getD_eq_getElem?_getD, List.getElem?_eq_getElem hj, Option.getD_some] at he
    have := (List.getElem_inj (xs := r) (h₀ := by omega) (h₁ := hj) h).1 he
    omega
abbrev OnT := (Nat × Nat) × Unit × (Nat × Nat × Nat) × (Nat × Nat × Nat) × Int × LL × Int × Int × Unit
theorem on_b1 {k : Nat} (hk : Many k) (D : List (List Nat)) (hD : Rows D) (inn : List Bool) (pl : Nat × Nat) (li : Nat × Nat × Nat) (ui i : Nat) (hi : i < D.length) (many : Int) (rows : LL) (n ii : Int) (S : List LV) (hS : RowsObj S ui D.length (usersTo D inn i)) :
    ∃ S', (RowsObj S' ui D.length (fun k => usersIn D inn i (D.getD i []).length k) ∧ Keeps S S' [ui]) ∧
      ∀ J : OnT → List LV → Option R, rounds (G.steps_plan_order_nils.b1 k J) k (pl, (), li, (ui, 0, D.length), many, (i : Int), rows, n, ii, ints (D.getD i []), ((D.getD i []).length : Int), 0, ()) S = J (pl, (), li, (ui, 0, D.length), many, rows, n, ii, ()) S' := by
  have hk' := hk
  unfold Many at hk'
  have hsm := hD.small.get i hi
  refine loop_all (R := R) (b := fun J => G.steps_plan_order_nils.b1 k J) (x := fun t => (pl, (), li, (ui, 0, D.length), many, (i : Int), rows, n, ii, ints (D.getD i []), ((D.getD i []).length : Int), (t : Int), ())) (n := (D.getD i []).length)
    (Inv := fun t S1 => RowsObj S1 ui D.length (fun k => usersIn D inn i t k) ∧ Keeps S S1 [ui])
    (out := fun (J : OnT → List LV → Option R) S' => J (pl, (), li, (ui, 0, D.length), many, rows, n, ii, ()) S')
    (fun t S1 ht hI => ?_) (fun J rec S1 hI => ?_) k (by omega) S ⟨?_, Keeps.refl _ _⟩
  · obtain ⟨h1, h2⟩ := hI
    have hkl : (D.getD i []).getD t 0 < D.length := hsm.2 _ (nat_mem _ t ht)
    have hlen : (usersIn D inn i t ((D.getD i []).getD t 0)).length ≤ 500 := by
      have := usersTo_len D inn i ((D.getD i []).getD t 0)
      have h500 := hD.small.1
      unfold usersIn
      rw [List.length_append]
      have h1 : ∀ b : Bool, (cond b [i] []).length ≤ 1 := fun b => by cases b <;> simp
      have h1 := h1 (((D.getD i []).take t).contains ((D.getD i []).getD t 0))
      omega
    refine ⟨S1.set ui (rowsO D.length (updF (fun k => usersIn D inn i t k) ((D.getD i []).getD t 0) (usersIn D inn i t ((D.getD i []).getD t 0) ++ [i]))), ⟨?_, h2.trans (Keeps.set _ _ _)⟩, fun J rec => ?_⟩
    · have e : (updF (fun k => usersIn D inn i t k) ((D.getD i []).getD t 0) (usersIn D inn i t ((D.getD i []).getD t 0) ++ [i])) = fun k => usersIn D inn i (t + 1) k := by
        funext k
        unfold updF usersIn
        rw [take_contains _ t ht]
        by_cases e : k = (D.getD i []).getD t 0
        · subst e
          rw [nodup_take (hD.get i hi) t ht]; simp
        · have e0 : (k == (D.getD i []).getD t 0) = false := by simpa using e
          rw [e0, Bool.or_false]; rfl
      show RowsObj _ _ _ (fun k => usersIn D inn i (t + 1) k)
      rw [← e]
      exact RowsObj.of _ _ _ _ (lt_get h1 (by simp))
    · unfold G.steps_plan_order_nils.b1 G.steps_plan_order_nils.q4 G.steps_plan_order_nils.q5 G.steps_plan_order_nils.q6
      dsimp only
      rw [lt_nat, ifB_pos ht, idxL_nat (by rw [ints_len]; exact ht), ints_get _ t ht, leaf_int]
      refine (RowsObj.app h1 hkl i hlen _).trans ?_
      rw [wrap_succ (by omega)]
  · unfold G.steps_plan_order_nils.b1 G.steps_plan_order_nils.q4
    dsimp only
    rw [lt_nat, ifB_neg (Nat.lt_irrefl _)]
  · have e : (fun k => usersIn D inn i 0 k) = usersTo D inn i := by
      funext k
      unfold usersIn
      simp
    rw [e]; exact hS
end
end Go.Lm

/- The program's order of all rules: the first loop. -/
set_option maxRecDepth 100000
namespace Go.Lm
section
variable {R : Type}
theorem row_at (D : List (List Nat)) (i : Nat) (hi : i < D.length) (K : List LV → Option R) : (idxL (D.map rowS) (i : Int) fun v => asSl 1 (leaf v 0) K) = K (ints (D.getD i [])) := by
  rw [idxL_nat (by simpa using hi)]
  have e : (D.map rowS).getD i .any = rowS (D.getD i []) := by simp [List.getD_eq_getElem?_getD, hi]
  rw [e]
  exact asSl_sl 1 _ K
theorem left_upd (D : List (List Nat)) (inn : List Bool) (t : Nat) (h : inn.getD t false = true) : updF (leftTo D inn t) t (((D.getD t []).length : Nat) : Int) = leftTo D inn (t + 1) := by
  funext j
  unfold updF leftTo
  by_cases e : j = t
  · subst e
    rw [beq_self_eq_true, cond_true, decide_eq_true (by omega : j < j + 1), h]; rfl
  · rw [show (j == t) = false by simpa using e, cond_false]
    by_cases h1 : j < t
    · rw [decide_eq_true h1, decide_eq_true (by omega : j < t + 1)]
    · rw [decide_eq_false h1, decide_eq_false (by omega : ¬ j < t + 1)]
theorem users_full (D : List (List Nat)) (inn : List Bool) (t : Nat) (h : inn.getD t false = true) : (fun k => usersIn D inn t (D.getD t []).length k) = usersTo D inn (t + 1) := by
  funext k
  unfold usersIn
  rw [usersTo_succ, List.take_length, h, Bool.true_and]
theorem allTrue (n i : Nat) (h : i < n) : (List.replicate n true).getD i false = true := by simp [List.getD_eq_getElem?_getD, h]
abbrev On0 := (Nat × Nat) × Unit × (Nat × Nat × Nat) × (Nat × Nat × Nat) × Int × Unit
theorem on_b0 {k : Nat} (hk : Many k) (D : List (List Nat)) (hD : Rows D) (pl : Nat × Nat) (li ui : Nat) (hne : li ≠ ui) (S : List LV) (hL : IntsObj S li D.length (leftTo D (List.replicate D.length true) 0)) (hU : RowsObj S ui D.length (usersTo D (List.replicate D.length true) 0)) :
    ∃ S', (IntsObj S' li D.length (leftTo D (List.replicate D.length true) D.length) ∧ RowsObj S' ui D.length (usersTo D (List.replicate D.length true) D.length) ∧ Keeps S S' [li, ui]) ∧
      ∀ J : On0 → List LV → Option R, rounds (G.steps_plan_order_nils.b0 k J) k (pl, (), (li, 0, D.length), (ui, 0, D.length), 0, D.map rowS, (D.length : Int), 0, ()) S = J (pl, (), (li, 0, D.length), (ui, 0, D.length), (D.length : Int), ()) S' := by
  have hk' := hk
  unfold Many at hk'
  have h500 := hD.small.1
  refine loop_all (R := R) (b := fun J => G.steps_plan_order_nils.b0 k J) (x := fun t => (pl, (), (li, 0, D.length), (ui, 0, D.length), (t : Int), D.map rowS, (D.length : Int), (t : Int), ())) (n := D.length)
    (Inv := fun t S1 => IntsObj S1 li D.length (leftTo D (List.replicate D.length true) t) ∧ RowsObj S1 ui D.length (usersTo D (List.replicate D.length true) t) ∧ Keeps S S1 [li, ui])
    (out := fun (J : On0 → List LV → Option R) S' => J (pl, (), (li, 0, D.length), (ui, 0, D.length), (D.length : Int), ()) S')
    (fun t S1 ht hI => ?_) (fun J rec S1 hI => ?_) k (by omega) S ⟨hL, hU, Keeps.refl _ _⟩
  · obtain ⟨h1, h2, h3⟩ := hI
    have hin := allTrue D.length t ht
    have hK1 : Keeps S1 (S1.set li (intsO D.length (updF (leftTo D (List.replicate D.length true) t) t (((D.getD t []).length : Nat) : Int)))) [li] := Keeps.set _ _ _
    have hL1 := IntsObj.of S1 li D.length (updF (leftTo D (List.replicate D.length true) t) t (((D.getD t []).length : Nat) : Int)) (lt_get h1 (by simp))
    have hU1 : RowsObj (S1.set li (intsO D.length (updF (leftTo D (List.replicate D.length true) t) t (((D.getD t []).length : Nat) : Int)))) ui D.length (usersTo D (List.replicate D.length true) t) := hK1.get h2 (by simp) (by simp; exact Ne.symm hne)
    obtain ⟨S2, ⟨h4, h5⟩, h6⟩ := on_b1 (R := R) hk D hD (List.replicate D.length true) pl (li, 0, D.length) ui t ht ((t + 1 : Nat) : Int) (D.map rowS) (D.length : Int) (t : Int) _ hU1
    refine ⟨S2, ⟨?_, ?_, h3.trans ((hK1.weak (fun m hm => by simp at hm; simp [hm])).trans (h5.weak (fun m hm => by simp at hm; simp [hm])))⟩, fun J rec => ?_⟩
    · rw [← left_upd D _ t hin]
      exact h5.get hL1 (by simp) (by simp; exact hne)
    · rw [← users_full D _ t hin]; exact h4
    · unfold G.steps_plan_order_nils.b0 G.steps_plan_order_nils.q1 G.steps_plan_order_nils.q2 G.steps_plan_order_nils.q3 G.steps_plan_order_nils.q0
      dsimp only
      rw [lt_nat, ifB_pos ht, row_at D t ht, show (true == true) = true from rfl, ifB_true, ifB_true, ints_len, idxN_nat ht]
      refine (IntsObj.st h1 ht _ _).trans ?_
      rw [wrap_succ (by omega)]
      refine (h6 _).trans ?_
      dsimp only
      rw [wrap_succ (by omega)]
  · unfold G.steps_plan_order_nils.b0
    dsimp only
    rw [lt_nat, ifB_neg (Nat.lt_irrefl _)]
end
end Go.Lm
