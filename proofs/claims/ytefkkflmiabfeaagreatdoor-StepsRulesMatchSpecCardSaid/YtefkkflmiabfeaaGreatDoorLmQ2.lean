/- A rule alone: the program's and the reference's checks answer alike. -/
import Derived.Test.YtefkkflmiabfeaaGreatDoorLmQ
set_option linter.unusedVariables false
set_option linter.unusedSimpArgs false
set_option maxRecDepth 100000
namespace Go.Lm
section
variable {R : Type}
structure Rule where
  name : ByteArray
  act : Act
  ins : List ByteArray
abbrev RuleT := ByteArray × ByteArray × List LV × List LV × List LV × List LV × Int × List LV × Unit
abbrev Rule.tup (r : Rule) : RuleT := (r.name, r.act.tool, r.act.cmds.map cmdL, r.act.vars.map varL, r.act.outs.map .str, r.act.needs.map varL, r.act.time, r.ins.map .str, ())
def Rule.cells (r : Rule) : List LV := [.str r.name, .str r.act.tool, .sl 1 (r.act.cmds.map cmdL), .sl 2 (r.act.vars.map varL), .sl 1 (r.act.outs.map .str), .sl 2 (r.act.needs.map varL), .int .i64 r.act.time, .sl 1 (r.ins.map .str)]
def Rule.lv (r : Rule) : LV := .agg r.cells
def Rule.zero : Rule := ⟨bs [], ⟨bs [], [], [], [], [], 0⟩, []⟩
structure RuleOk (r : Rule) : Prop where
  act : ActOk r.act
  ins : r.ins.length ≤ 140737488355328
theorem rule_get (l : List Rule) (i : Nat) (h : i < l.length) : (l.map Rule.lv).getD i .any = (l.getD i .zero).lv := by simp [List.getD_eq_getElem?_getD, h]
theorem rule_mem (l : List Rule) (i : Nat) (h : i < l.length) : l.getD i .zero ∈ l := by
  rw [List.getD_eq_getElem?_getD, List.getElem?_eq_getElem h]; exact List.getElem_mem h
theorem Rule.mat (r : Rule) (K : List LV → Option R) : Lm.mat 8 r.lv K = K r.cells := rfl
theorem rule_name (r : Rule) (K : ByteArray → Option R) : asStr (leaf r.lv 0) K = K r.name := rfl
theorem rule_outs (r : Rule) (K : List LV → Option R) : asSl 1 (leaf r.lv 4) K = K (r.act.outs.map .str) := asSl_sl 1 _ K
theorem rule_ins (r : Rule) (K : List LV → Option R) : asSl 1 (leaf r.lv 7) K = K (r.ins.map .str) := asSl_sl 1 _ K
/-- The cells of a rule, one behind the other. -/
theorem rule_cells (r : Rule) (K : ByteArray → ByteArray → List LV → List LV → List LV → List LV → Int → List LV → Option R) :
    (asStr (r.cells.getD 0 .any) fun a => asStr (r.cells.getD 1 .any) fun b => asSl 1 (r.cells.getD 2 .any) fun c => asSl 2 (r.cells.getD 3 .any) fun d => asSl 1 (r.cells.getD 4 .any) fun e => asSl 2 (r.cells.getD 5 .any) fun f => asInt .i64 (r.cells.getD 6 .any) fun g => asSl 1 (r.cells.getD 7 .any) fun h => K a b c d e f g h) =
      K r.name r.act.tool (r.act.cmds.map cmdL) (r.act.vars.map varL) (r.act.outs.map .str) (r.act.needs.map varL) r.act.time (r.ins.map .str) := by
  unfold Rule.cells
  simp only [List.getD_cons_zero, List.getD_cons_succ, asStr_str, asInt_int, asSl_sl]
def ruleS (r : Rule) : Int := cond (isPathS r.name) (cond (actS r.act == 0) (cond (decide (r.ins.length > 1000)) 2 ((firstE (outS r.ins) r.ins.length).getD 0)) (actS r.act)) 3
theorem prog_ins {k : Nat} (hk : Many k) (r : Rule) (hl : r.ins.length ≤ 1000) (S : List LV) (J0 : Unit → List LV → Option R) (Jret : Int × Unit → List LV → Option R) :
    rounds (G.steps_checkRule.b0 k J0 Jret) k (r.tup, r.ins.map .str, (r.ins.length : Int), (0 : Int), ()) S = ((firstE (outS r.ins) r.ins.length).map fun n => Jret (n, ()) S).getD (J0 () S) := by
  have hk' := hk
  unfold Many at hk'
  unfold firstE
  rw [← scan_firstE]
  refine rounds_scan0 (fun i => (r.tup, r.ins.map LV.str, (r.ins.length : Int), (i : Int), ())) S r.ins.length k _ _ (fun rec i hi => ?_) (fun rec => ?_) (by omega)
  · unfold G.steps_checkRule.b0
    dsimp only
    have hi2 : i < (r.ins.map LV.str).length := by simpa using hi
    rw [lt_nat, ifB_pos hi]
    simp only [idxL_nat hi2, map_str_get r.ins i hi, asLeaf_str, prog_IsPath hk, wrap_succ (show i < 9223372036854775807 by omega), out_prev r.ins i hi (by omega)]
    unfold outS
    generalize (decide (0 < i) && (strLt (r.ins.getD i (bs [])) (r.ins.getD (i - 1) (bs [])) || strEq (r.ins.getD i (bs [])) (r.ins.getD (i - 1) (bs [])))) = b2
    cases isPathS (r.ins.getD i (bs [])) <;> cases b2 <;> rfl
  · unfold G.steps_checkRule.b0
    dsimp only
    rw [lt_nat, ifB_neg (Nat.lt_irrefl _)]
theorem ref_ins {k : Nat} (hk : Many k) (r : Rule) (hl : r.ins.length ≤ 1000) (S : List LV) (J0 : Unit → List LV → Option R) (Jret : Int × Unit → List LV → Option R) :
    rounds (G.smithyardref6_checkRule.b0 k J0 Jret) k (r.tup, (0 : Int), ()) S = ((firstE (outS r.ins) r.ins.length).map fun n => Jret (n, ()) S).getD (J0 () S) := by
  have hk' := hk
  unfold Many at hk'
  unfold firstE
  rw [← scan_firstE]
  refine rounds_scan0 (fun i => (r.tup, (i : Int), ())) S r.ins.length k _ _ (fun rec i hi => ?_) (fun rec => ?_) (by omega)
  · unfold G.smithyardref6_checkRule.b0 G.smithyardref6_checkRule.q0
    dsimp only
    have hi2 : i < (r.ins.map LV.str).length := by simpa using hi
    rw [List.length_map, lt_nat, ifB_pos hi]
    simp only [idxL_nat hi2, map_str_get r.ins i hi, asLeaf_str, ref_IsPath hk, wrap_succ (show i < 9223372036854775807 by omega), out_prev r.ins i hi (by omega)]
    unfold outS
    generalize (decide (0 < i) && (strLt (r.ins.getD i (bs [])) (r.ins.getD (i - 1) (bs [])) || strEq (r.ins.getD i (bs [])) (r.ins.getD (i - 1) (bs [])))) = b2
    cases isPathS (r.ins.getD i (bs [])) <;> cases b2 <;> rfl
  · unfold G.smithyardref6_checkRule.b0
    dsimp only
    rw [List.length_map, lt_nat, ifB_neg (Nat.lt_irrefl _)]
theorem prog_checkRule {k : Nat} (hk : Many k) (r : Rule) (ok : RuleOk r) (S : List LV) (K : Int × Unit → List LV → Option R) : G.steps_checkRule.fn k (r.tup, ()) S K = K (ruleS r, ()) S := by
  unfold G.steps_checkRule.fn ruleS
  dsimp only
  rw [prog_IsPath hk]
  dsimp only
  cases isPathS r.name with
  | false => rfl
  | true =>
    rw [Bool.not_true, ifB_false]
    refine (prog_CheckAction hk r.act ok.act S _).trans ?_
    dsimp only [cond]
    rw [ne0]
    cases actS r.act == 0 with
    | false => rfl
    | true =>
      dsimp only [cond]
      rw [Bool.not_true, ifB_false, List.length_map, show decide ((r.ins.length : Int) > 1000) = decide (r.ins.length > 1000) from gt_nat r.ins.length 1000]
      by_cases h : r.ins.length > 1000
      · rw [decide_eq_true h]; rfl
      · rw [decide_eq_false h, ifB_false]
        refine (prog_ins hk r (by omega) S _ _).trans ?_
        cases firstE (outS r.ins) r.ins.length <;> rfl
theorem ref_checkRule {k : Nat} (hk : Many k) (r : Rule) (ok : RuleOk r) (S : List LV) (K : Int × Unit → List LV → Option R) : G.smithyardref6_checkRule.fn k (r.tup, ()) S K = K (ruleS r, ()) S := by
  unfold G.smithyardref6_checkRule.fn ruleS
  dsimp only
  rw [ref_IsPath hk]
  dsimp only
  cases isPathS r.name with
  | false => rfl
  | true =>
    rw [Bool.not_true, ifB_false]
    refine (ref_CheckAction hk r.act ok.act S _).trans ?_
    dsimp only [cond]
    rw [ne0]
    cases actS r.act == 0 with
    | false => rfl
    | true =>
      dsimp only [cond]
      rw [Bool.not_true, ifB_false, List.length_map, show decide ((r.ins.length : Int) > 1000) = decide (r.ins.length > 1000) from gt_nat r.ins.length 1000]
      by_cases h : r.ins.length > 1000
      · rw [decide_eq_true h]; rfl
      · rw [decide_eq_false h, ifB_false]
        refine (ref_ins hk r (by omega) S _ _).trans ?_
        cases firstE (outS r.ins) r.ins.length <;> rfl
end
end Go.Lm

/- Stores that grow, loops that turn them, sets of strings; the paths above a path. -/
set_option maxRecDepth 100000
namespace Go.Lm
section
variable {R : Type}
/-- Where a store that grew is as it was. -/
def Keeps (S S' : List LV) (M : List Nat) : Prop := S.length ≤ S'.length ∧ ∀ j, j < S.length → j ∉ M → S'.getD j .any = S.getD j .any
theorem Keeps.refl (S : List LV) (M : List Nat) : Keeps S S M := ⟨Nat.le_refl _, fun _ _ _ => rfl⟩
theorem Keeps.trans {S S1 S2 : List LV} {M : List Nat} (h : Keeps S S1 M) (h1 : Keeps S1 S2 M) : Keeps S S2 M :=
  ⟨Nat.le_trans h.1 h1.1, fun j hj hm => (h1.2 j (Nat.lt_of_lt_of_le hj h.1) hm).trans (h.2 j hj hm)⟩
theorem Keeps.weak {S S' : List LV} {M M' : List Nat} (h : Keeps S S' M) (hs : ∀ m, m ∈ M → m ∈ M' ∨ S.length ≤ m) : Keeps S S' M' :=
  ⟨h.1, fun j hj hm => h.2 j hj fun hc => by rcases hs j hc with h1 | h1; exact hm h1; omega⟩
theorem Keeps.set (S : List LV) (id : Nat) (v : LV) : Keeps S (S.set id v) [id] :=
  ⟨by simp, fun j _ hm => other_set (fun e => hm (by simp [e])) v⟩
theorem Keeps.app (S T : List LV) (M : List Nat) : Keeps S (S ++ T) M :=
  ⟨by simp, fun j hj _ => by simp only [List.getD_eq_getElem?_getD, List.getElem?_append_left hj]⟩
theorem Keeps.get {S S' : List LV} {M : List Nat} (h : Keeps S S' M) {id : Nat} {v : LV} (hv : S.getD id .any = v) (hn : v ≠ .any) (hm : id ∉ M) : S'.getD id .any = v := by
  rcases Nat.lt_or_ge id S.length with h1 | h1
  · rw [h.2 id h1 hm, hv]
  · rw [List.getD_eq_getElem?_getD, List.getElem?_eq_none h1] at hv; exact absurd hv.symm hn
theorem Keeps.grown {S S' : List LV} (h : Keeps S S' []) : ∃ G, S' = S ++ G := by
  refine ⟨S'.drop S.length, ?_⟩
  apply List.ext_getElem?
  intro j
  rcases Nat.lt_or_ge j S.length with h1 | h1
  · rw [List.getElem?_append_left h1]
    have := h.2 j h1 (by simp)
    simp only [List.getD_eq_getElem?_getD] at this
    rw [List.getElem?_eq_getElem h1, List.getElem?_eq_getElem (Nat.lt_of_lt_of_le h1 h.1)] at *
    simpa using this
  · rw [List.getElem?_append_right h1, List.getElem?_drop, Nat.add_sub_cancel' h1]
theorem lt_get {S : List LV} {id : Nat} {v : LV} (hv : S.getD id .any = v) (hn : v ≠ .any) : id < S.length := by
  rcases Nat.lt_or_ge id S.length with h1 | h1
  · exact h1
  · rw [List.getD_eq_getElem?_getD, List.getElem?_eq_none h1] at hv; exact absurd hv.symm hn
theorem get_app {S : List LV} {id : Nat} {v : LV} (T : List LV) (hv : S.getD id .any = v) (hn : v ≠ .any) : (S ++ T).getD id .any = v := (Keeps.app S T []).get hv hn (by simp)
theorem get_set {S : List LV} {id : Nat} {v : LV} (hl : id < S.length) : (S.set id v).getD id .any = v := by
  simp [List.getD_eq_getElem?_getD, hl]
/-! ### Loops whose rounds turn the store -/
def scanE {ε : Type} (e : Nat → Option ε) (d i : Nat) : Option ε := scan (fun j => (e j).map some) none d i
theorem scanE_zero {ε : Type} (e : Nat → Option ε) (i : Nat) : scanE e 0 i = none := rfl
theorem scanE_some {ε : Type} {e : Nat → Option ε} {d i : Nat} {r : ε} (h : e i = some r) : scanE e (d + 1) i = some r := by simp [scanE, scan, h]
theorem scanE_none {ε : Type} {e : Nat → Option ε} {d i : Nat} (h : e i = none) : scanE e (d + 1) i = scanE e d (i + 1) := by simp [scanE, scan, h]
theorem loop_inv {κ α ε : Type} {b : κ → (α → List LV → Option R) → α → List LV → Option R} {x : Nat → α} {n : Nat} {Inv : Nat → List LV → Prop} {PE : ε → List LV → Prop} {out : κ → Option ε → List LV → Option R} {e : Nat → Option ε}
    (hb : ∀ i S, i < n → Inv i S → (∀ r, e i = some r → ∃ S', PE r S' ∧ ∀ q rec, b q rec (x i) S = out q (some r) S') ∧ (e i = none → ∃ S', Inv (i + 1) S' ∧ ∀ q rec, b q rec (x i) S = rec (x (i + 1)) S'))
    (he : ∀ q rec S, Inv n S → b q rec (x n) S = out q none S) :
    ∀ (d i fuel : Nat) (S : List LV), i + d = n → d < fuel → Inv i S → ∃ S', (∀ r, scanE e d i = some r → PE r S') ∧ (scanE e d i = none → Inv n S') ∧ ∀ q, rounds (b q) fuel (x i) S = out q (scanE e d i) S'
  | 0, i, fuel, S, hi, hf, hI => by
    obtain ⟨m, rfl⟩ : ∃ m, fuel = m + 1 := ⟨fuel - 1, by omega⟩
    have : i = n := by omega
    subst this
    exact ⟨S, fun r h => (by simp [scanE_zero] at h), fun _ => hI, fun q => by rw [rounds_succ, he _ _ _ hI, scanE_zero]⟩
  | d + 1, i, fuel, S, hi, hf, hI => by
    obtain ⟨m, rfl⟩ : ∃ m, fuel = m + 1 := ⟨fuel - 1, by omega⟩
    obtain ⟨h1, h2⟩ := hb i S (by omega) hI
    cases hE : e i with
    | some r =>
      obtain ⟨S', hp, hs⟩ := h1 r hE
      exact ⟨S', fun r' h => (by rw [scanE_some hE] at h; cases h; exact hp), fun h => (by rw [scanE_some hE] at h; cases h), fun q => by rw [rounds_succ, hs, scanE_some hE]⟩
    | none =>
      obtain ⟨S1, hI1, hs⟩ := h2 hE
      obtain ⟨S', a, b', c⟩ := loop_inv hb he d (i + 1) m S1 (by omega) (by omega) hI1
      exact ⟨S', fun r h => a r (by rwa [scanE_none hE] at h), fun h => b' (by rwa [scanE_none hE] at h), fun q => by rw [rounds_succ, hs, c, scanE_none hE]⟩
/-- A loop without errors. -/
theorem loop_all {κ α : Type} {b : κ → (α → List LV → Option R) → α → List LV → Option R} {x : Nat → α} {n : Nat} {Inv : Nat → List LV → Prop} {out : κ → List LV → Option R}
    (hb : ∀ i S, i < n → Inv i S → ∃ S', Inv (i + 1) S' ∧ ∀ q rec, b q rec (x i) S = rec (x (i + 1)) S') (he : ∀ q rec S, Inv n S → b q rec (x n) S = out q S)
    (fuel : Nat) (hf : n < fuel) (S : List LV) (hI : Inv 0 S) : ∃ S', Inv n S' ∧ ∀ q, rounds (b q) fuel (x 0) S = out q S' := by
  obtain ⟨S', _, h2, h3⟩ := loop_inv (ε := Empty) (e := fun _ => none) (PE := fun r _ => r.elim) (out := fun q _ S => out q S) (b := b) (x := x) (Inv := Inv) (fun i S hi hI => ⟨fun r => r.elim, fun _ => hb i S hi hI⟩) he n 0 fuel S (by omega) hf hI
  have hn : ∀ d i, scanE (fun _ => (none : Option Empty)) d i = none := fun d => by
    induction d with
    | zero => exact fun i => rfl
    | succ d ih => exact fun i => (scanE_none rfl).trans (ih (i + 1))
  exact ⟨S', h2 (hn _ _), h3⟩
/-! ### Sets of strings in the store -/
def StrKeys (m : List (LV × LV)) : Prop := ∀ e, e ∈ m → ∃ s, e.1 = LV.str s
theorem StrKeys.put {m : List (LV × LV)} (hm : StrKeys m) (a : ByteArray) (v : LV) : StrKeys (mapPut m (.str a) v) := by
  induction m with
  | nil => intro e he; simp [mapPut] at he; exact ⟨a, by rw [he]⟩
  | cons x m ih =>
    intro e he
    obtain ⟨k, y⟩ := x
    simp only [mapPut] at he
    split at he
    · rcases List.mem_cons.1 he with rfl | he
      · exact hm (k, y) (by simp)
      · exact hm e (by simp [he])
    · rcases List.mem_cons.1 he with rfl | he
      · exact hm (k, y) (by simp)
      · exact ih (fun e he => hm e (by simp [he])) e he
structure IsMap (S : List LV) (id : Nat) (m : List (LV × LV)) (f : ByteArray → Option LV) : Prop where
  at_ : S.getD id .any = .mp .str m
  keys : StrKeys m
  get : ∀ p, mapGet m (.str p) = f p
theorem IsMap.lt {S : List LV} {id : Nat} {m : List (LV × LV)} {f : ByteArray → Option LV} (h : IsMap S id m f) : id < S.length := lt_get h.at_ (by simp)
theorem IsMap.mp {S : List LV} {id : Nat} {m : List (LV × LV)} {f : ByteArray → Option LV} (h : IsMap S id m f) (K : List (LV × LV) → Option R) : mpAt S id .str K = K m := by
  unfold mpAt
  rw [h.at_]; rfl
theorem IsMap.keeps {S S' : List LV} {id : Nat} {m : List (LV × LV)} {f : ByteArray → Option LV} {M : List Nat} (h : IsMap S id m f) (hk : Keeps S S' M) (hm : id ∉ M) : IsMap S' id m f := ⟨hk.get h.at_ (by simp) hm, h.keys, h.get⟩
theorem IsMap.put {S : List LV} {id : Nat} {m : List (LV × LV)} {f : ByteArray → Option LV} (h : IsMap S id m f) (a : ByteArray) (v : LV) : IsMap (S.set id (.mp .str (mapPut m (.str a) v))) id (mapPut m (.str a) v) (fun p => cond (decide (a = p)) (some v) (f p)) :=
  ⟨get_set h.lt, h.keys.put a v, fun p => by rw [mapGet_put _ _ _ _ h.keys, h.get]; cases decide (a = p) <;> rfl⟩
def IsSet (S : List LV) (id : Nat) (P : ByteArray → Bool) : Prop := ∃ m, IsMap S id m fun p => cond (P p) (some (.bool true)) none
theorem IsSet.keeps {S S' : List LV} {id : Nat} {P : ByteArray → Bool} {M : List Nat} (h : IsSet S id P) (hk : Keeps S S' M) (hm : id ∉ M) : IsSet S' id P := by
  obtain ⟨m, h⟩ := h; exact ⟨m, h.keeps hk hm⟩
theorem IsSet.lt {S : List LV} {id : Nat} {P : ByteArray → Bool} (h : IsSet S id P) : id < S.length := by obtain ⟨m, h⟩ := h; exact h.lt
theorem IsSet.congr {S : List LV} {id : Nat} {P P' : ByteArray → Bool} (h : IsSet S id P) (hp : ∀ p, P p = P' p) : IsSet S id P' := by
  have : P = P' := funext hp
  rw [← this]; exact h
theorem IsSet.empty (S : List LV) : IsSet (S ++ [.mp .str []]) S.length fun _ => false := ⟨[], get_end _ _, fun e he => by simp at he, fun p => rfl⟩
theorem IsSet.get {S : List LV} {id : Nat} {P : ByteArray → Bool} (h : IsSet S id P) (p : ByteArray) (K : Bool → Option R) : (mpAt S id .str fun m => asBool ((mapGet m (.str p)).getD (.bool false)) K) = K (P p) := by
  obtain ⟨m, h⟩ := h
  rw [h.mp, h.get]
  cases P p <;> rfl
theorem IsSet.put {S : List LV} {id : Nat} {P : ByteArray → Bool} (h : IsSet S id P) (a : ByteArray) : ∃ S', IsSet S' id (fun p => P p || decide (a = p)) ∧ Keeps S S' [id] ∧
    ∀ K : List LV → Option R, (mpAt S id .str fun m => setS (S.set id (.mp .str (mapPut m (.str a) (.bool true)))) K) = K S' := by
  obtain ⟨m, h⟩ := h
  refine ⟨_, ⟨mapPut m (.str a) (.bool true), ?_⟩, Keeps.set S id (.mp .str (mapPut m (.str a) (.bool true))), fun K => h.mp _⟩
  have := h.put a (.bool true)
  refine ⟨this.at_, this.keys, fun p => (this.get p).trans ?_⟩
  dsimp only
  cases decide (a = p) <;> cases P p <;> rfl
/-! ### The paths above a path -/
def aboveTo (p : ByteArray) (n : Nat) : List ByteArray := (List.range n).filterMap fun (j : Nat) => cond (bt p (j : Int) == 47) (some (p.extract 0 j)) none
def aboveS (p : ByteArray) : List ByteArray := aboveTo p p.size
theorem aboveTo_succ (p : ByteArray) (n : Nat) : aboveTo p (n + 1) = cond (bt p (n : Int) == 47) (aboveTo p n ++ [p.extract 0 n]) (aboveTo p n) := by
  unfold aboveTo
  rw [List.range_succ, List.filterMap_append]
  rw [List.filterMap_cons]
  cases bt p (n : Int) == 47 <;> simp
theorem aboveTo_len (p : ByteArray) (n : Nat) : (aboveTo p n).length ≤ n := by
  have := List.length_filterMap_le (fun j : Nat => cond (bt p (j : Int) == 47) (some (p.extract 0 j)) none) (List.range n)
  rw [List.length_range] at this
  exact this
theorem prog_above {k : Nat} (hk : Many k) (p : ByteArray) (hp : p.size ≤ 300) (S : List LV) (K : List LV × Unit → List LV → Option R) : G.steps_above.fn k (p, ()) S K = K ((aboveS p).map .str, ()) S := by
  unfold Many at hk
  unfold G.steps_above.fn
  have h0 : (aboveTo p 0).map LV.str = [] := rfl
  dsimp only
  rw [← h0]
  refine (rounds_scan0 (fun i => (p, (aboveTo p i).map LV.str, (p.size : Int), (i : Int), ())) S p.size k (fun _ => none) (K ((aboveS p).map .str, ()) S) (fun rec i hi => ?_) (fun rec => ?_) (by omega)).trans (scan_none _ _ (fun _ _ _ => rfl))
  · unfold G.steps_above.b0
    dsimp only
    rw [lt_nat, ifB_pos hi, idxStr_nat hi, slStr_nat (by omega), wrap_succ (by omega), aboveTo_succ]
    have := aboveTo_len p i
    cases bt p i == 47 with
    | true => rw [ifB_true, app_one (by rw [List.length_map]; omega) (by rw [List.length_map]; omega)]; simp
    | false => rfl
  · unfold G.steps_above.b0
    dsimp only
    rw [lt_nat, ifB_neg (Nat.lt_irrefl _)]; rfl
theorem bt_toL (p : ByteArray) (j : Nat) (h : j < p.size) : bt p (j : Int) = (((toL p).getD j 0).toNat : Int) := by
  unfold bt toL
  rw [dif_pos (by simpa using h)]
  have h2 : j < p.data.size := h
  have e : p[j] = p.data[j] := rfl
  simp [List.getD_eq_getElem?_getD, h2]
  rw [Array.getElem?_eq_getElem h2]
  rfl
theorem mem_above (p q : ByteArray) : q ∈ aboveS p ↔ liesS p q = true := by
  unfold aboveS aboveTo liesS
  rw [List.mem_filterMap]
  constructor
  · rintro ⟨j, hj, h⟩
    rw [List.mem_range] at hj
    cases h47 : bt p (j : Int) == 47 with
    | false => rw [h47] at h; cases h
    | true =>
      rw [h47] at h
      simp only [cond_true, Option.some.injEq] at h
      subst h
      have hs : (p.extract 0 j).size = j := by rw [← toL_len, toL_extract]; simp [toL_len]; omega
      rw [hs, decide_eq_true (show j + 1 ≤ p.size by omega), cond_true, strEq_iff]
      apply toL_inj
      rw [toL_app, toL_extract, toL_extract]
      simp only [Nat.sub_zero, List.drop_zero]
      rw [List.take_add_one]
      congr 1
      have h2 : j < (toL p).length := by rw [toL_len]; exact hj
      rw [bt_toL p j hj, beq_iff_eq, List.getD_eq_getElem?_getD, List.getElem?_eq_getElem h2] at h47
      rw [List.getElem?_eq_getElem h2]
      simp only [Option.getD_some] at h47
      have : (toL p)[j] = 47 := UInt8.toNat_inj.1 (by show _ = 47; omega)
      simp [this]; rfl
  · intro h
    cases hd : decide (q.size + 1 ≤ p.size) with
    | false => rw [hd] at h; cases h
    | true =>
      have hd := of_decide_eq_true hd
      rw [decide_eq_true hd, cond_true, strEq_iff] at h
      have h := congrArg toL h
      rw [toL_app, toL_extract] at h
      simp only [Nat.sub_zero, List.drop_zero] at h
      have h2 : q.size < (toL p).length := by rw [toL_len]; omega
      rw [List.take_add_one, List.getElem?_eq_getElem h2] at h
      have hq : ((toL p).take q.size).length = (toL q).length := by rw [List.length_take, toL_len, toL_len]; omega
      obtain ⟨h3, h4⟩ := List.append_inj h hq
      have h5 : (toL p)[q.size] = 47 := by
        have h6 : [(toL p)[q.size]] = ([47] : List UInt8) := h4
        simpa using h6
      refine ⟨q.size, List.mem_range.2 (by omega), ?_⟩
      have h47 : (bt p (q.size : Int) == 47) = true := by
        rw [bt_toL p _ (by omega), List.getD_eq_getElem?_getD, List.getElem?_eq_getElem h2]
        simp [h5]
      rw [h47]
      simp only [cond_true, Option.some.injEq]
      apply toL_inj
      rw [toL_extract]
      simpa using h3
end
end Go.Lm

/- The tangle of rules: which paths are outputs and inputs, and what lies above them. -/
set_option maxRecDepth 100000
namespace Go.Lm
section
variable {R : Type}
theorem any_take {α : Type} (f : α → Bool) (l : List α) (z : α) (i : Nat) (h : i < l.length) : (l.take (i + 1)).any f = ((l.take i).any f || f (l.getD i z)) := by
  rw [List.take_add_one, List.any_append, List.getD_eq_getElem?_getD, List.getElem?_eq_getElem h]
  simp
def isIn (l : List ByteArray) (p : ByteArray) : Bool := l.any fun a => decide (a = p)
theorem isIn_iff (l : List ByteArray) (p : ByteArray) : isIn l p = true ↔ p ∈ l := by
  unfold isIn
  rw [List.any_eq_true]
  constructor
  · rintro ⟨a, h, e⟩; rw [← of_decide_eq_true e]; exact h
  · exact fun h => ⟨p, h, by simp⟩
abbrev Ids := Nat × Nat × Nat × Nat × Unit
abbrev U5 := Unit × Unit × Unit × Unit × Unit
abbrev u5 : U5 := ((), (), (), (), ())
theorem tang_b2 {k : Nat} (hk : Many k) (ids : Ids) (r : RuleT) (ls : List LV) (n i : Int) (l11 : List LV) (m j : Int) (q : List ByteArray) (hq : q.length ≤ 300) (P : ByteArray → Bool) (S : List LV) (hS : IsSet S ids.2.2.1 P) :
    ∃ S', (IsSet S' ids.2.2.1 (fun p => P p || isIn q p) ∧ Keeps S S' [ids.2.2.1]) ∧
      ∀ J : U5 × Ids × RuleT × List LV × Int × Int × List LV × Int × Int × Unit → List LV → Option R,
        rounds (G.steps_tangleOf.b2 k J) k (u5, ids, r, ls, n, i, l11, m, j, q.map .str, (q.length : Int), 0, ()) S = J (u5, ids, r, ls, n, i, l11, m, j, ()) S' := by
  unfold Many at hk
  have h := loop_all (R := R) (b := fun J => G.steps_tangleOf.b2 k J) (x := fun t => (u5, ids, r, ls, n, i, l11, m, j, q.map LV.str, (q.length : Int), (t : Int), ())) (n := q.length)
    (Inv := fun t S1 => IsSet S1 ids.2.2.1 (fun p => P p || isIn (q.take t) p) ∧ Keeps S S1 [ids.2.2.1])
    (out := fun (J : U5 × Ids × RuleT × List LV × Int × Int × List LV × Int × Int × Unit → List LV → Option R) S' => J (u5, ids, r, ls, n, i, l11, m, j, ()) S')
    (fun t S1 ht hI => ?_) (fun J rec S1 hI => ?_) k (by omega) S ⟨hS.congr (fun p => by simp [isIn]), Keeps.refl _ _⟩
  · obtain ⟨S', ⟨h1, h2⟩, h3⟩ := h
    rw [List.take_length] at h1
    exact ⟨S', ⟨h1, h2⟩, h3⟩
  · obtain ⟨S', h1, h2, h3⟩ := hI.1.put (R := R) (q.getD t (bs []))
    refine ⟨S', ⟨h1.congr fun p => ?_, hI.2.trans h2⟩, fun J rec => ?_⟩
    · unfold isIn
      rw [any_take _ q (bs []) t ht, Bool.or_assoc]
    · unfold G.steps_tangleOf.b2
      dsimp only
      rw [lt_nat, ifB_pos ht, idxL_nat (by simpa using ht), map_str_get q t ht, asLeaf_str, h3, wrap_succ (by omega)]
  · unfold G.steps_tangleOf.b2
    dsimp only
    rw [lt_nat, ifB_neg (Nat.lt_irrefl _)]
theorem tang_b4 {k : Nat} (hk : Many k) (ids : Ids) (ls : List LV) (n i : Int) (l11 : List LV) (m j : Int) (q : List ByteArray) (hq : q.length ≤ 300) (P : ByteArray → Bool) (S : List LV) (hS : IsSet S ids.2.2.2.1 P) :
    ∃ S', (IsSet S' ids.2.2.2.1 (fun p => P p || isIn q p) ∧ Keeps S S' [ids.2.2.2.1]) ∧
      ∀ J : U5 × Ids × List LV × Int × Int × List LV × Int × Int × Unit → List LV → Option R,
        rounds (G.steps_tangleOf.b4 k J) k (u5, ids, ls, n, i, l11, m, j, q.map .str, (q.length : Int), 0, ()) S = J (u5, ids, ls, n, i, l11, m, j, ()) S' := by
  unfold Many at hk
  have h := loop_all (R := R) (b := fun J => G.steps_tangleOf.b4 k J) (x := fun t => (u5, ids, ls, n, i, l11, m, j, q.map LV.str, (q.length : Int), (t : Int), ())) (n := q.length)
    (Inv := fun t S1 => IsSet S1 ids.2.2.2.1 (fun p => P p || isIn (q.take t) p) ∧ Keeps S S1 [ids.2.2.2.1])
    (out := fun (J : U5 × Ids × List LV × Int × Int × List LV × Int × Int × Unit → List LV → Option R) S' => J (u5, ids, ls, n, i, l11, m, j, ()) S')
    (fun t S1 ht hI => ?_) (fun J rec S1 hI => ?_) k (by omega) S ⟨hS.congr (fun p => by simp [isIn]), Keeps.refl _ _⟩
  · obtain ⟨S', ⟨h1, h2⟩, h3⟩ := h
    rw [List.take_length] at h1
    exact ⟨S', ⟨h1, h2⟩, h3⟩
  · obtain ⟨S', h1, h2, h3⟩ := hI.1.put (R := R) (q.getD t (bs []))
    refine ⟨S', ⟨h1.congr fun p => ?_, hI.2.trans h2⟩, fun J rec => ?_⟩
    · unfold isIn
      rw [any_take _ q (bs []) t ht, Bool.or_assoc]
    · unfold G.steps_tangleOf.b4
      dsimp only
      rw [lt_nat, ifB_pos ht, idxL_nat (by simpa using ht), map_str_get q t ht, asLeaf_str, h3, wrap_succ (by omega)]
  · unfold G.steps_tangleOf.b4
    dsimp only
    rw [lt_nat, ifB_neg (Nat.lt_irrefl _)]
/-- The paths above some. -/
def over (l : List ByteArray) (p : ByteArray) : Bool := l.any fun q => isIn (aboveS q) p
theorem over_lies (l : List ByteArray) (p : ByteArray) : over l p = l.any fun q => liesS q p := by
  unfold over
  congr 1
  funext q
  rw [Bool.eq_iff_iff, isIn_iff, mem_above]
structure Tang (S : List LV) (ids : Ids) (O I OO OI : ByteArray → Bool) : Prop where
  o : IsSet S ids.1 O
  i : IsSet S ids.2.1 I
  oo : IsSet S ids.2.2.1 OO
  oi : IsSet S ids.2.2.2.1 OI
structure Apart (ids : Ids) : Prop where
  h12 : ids.1 ≠ ids.2.1
  h13 : ids.1 ≠ ids.2.2.1
  h14 : ids.1 ≠ ids.2.2.2.1
  h23 : ids.2.1 ≠ ids.2.2.1
  h24 : ids.2.1 ≠ ids.2.2.2.1
  h34 : ids.2.2.1 ≠ ids.2.2.2.1
def idL (ids : Ids) : List Nat := [ids.1, ids.2.1, ids.2.2.1, ids.2.2.2.1]
theorem tang_b1 {k : Nat} (hk : Many k) (ids : Ids) (hA : Apart ids) (r : Rule) (ls : List LV) (n i : Int) (hl : r.act.outs.length ≤ 100) (hp : ∀ p ∈ r.act.outs, p.size ≤ 300) {O I OO OI : ByteArray → Bool} (S : List LV) (hS : Tang S ids O I OO OI) :
    ∃ S', (Tang S' ids (fun p => O p || isIn r.act.outs p) I (fun p => OO p || over r.act.outs p) OI ∧ Keeps S S' (idL ids)) ∧
      ∀ J : U5 × Ids × RuleT × List LV × Int × Int × Unit → List LV → Option R,
        rounds (G.steps_tangleOf.b1 k J) k (u5, ids, r.tup, ls, n, i, r.act.outs.map .str, (r.act.outs.length : Int), 0, ()) S = J (u5, ids, r.tup, ls, n, i, ()) S' := by
  have hk' := hk
  unfold Many at hk'
  generalize hq : r.act.outs = q at *
  have h := loop_all (R := R) (b := fun J => G.steps_tangleOf.b1 k J) (x := fun t => (u5, ids, r.tup, ls, n, i, q.map LV.str, (q.length : Int), (t : Int), ())) (n := q.length)
    (Inv := fun t S1 => Tang S1 ids (fun p => O p || isIn (q.take t) p) I (fun p => OO p || over (q.take t) p) OI ∧ Keeps S S1 (idL ids))
    (out := fun (J : U5 × Ids × RuleT × List LV × Int × Int × Unit → List LV → Option R) S' => J (u5, ids, r.tup, ls, n, i, ()) S')
    (fun t S1 ht hI => ?_) (fun J rec S1 hI => ?_) k (by omega) S ⟨⟨hS.o.congr (fun p => by simp [isIn]), hS.i, hS.oo.congr (fun p => by simp [over]), hS.oi⟩, Keeps.refl _ _⟩
  · obtain ⟨S', ⟨h1, h2⟩, h3⟩ := h
    rw [List.take_length] at h1
    exact ⟨S', ⟨h1, h2⟩, h3⟩
  · obtain ⟨hT, hK⟩ := hI
    have hsz : (q.getD t (bs [])).size ≤ 300 := hp _ (by rw [List.getD_eq_getElem?_getD, List.getElem?_eq_getElem ht]; exact List.getElem_mem ht)
    obtain ⟨S2, h1, h2, h3⟩ := hT.o.put (R := R) (q.getD t (bs []))
    have hoo := hT.oo.keeps h2 (by simp; exact Ne.symm hA.h13)
    have hlen : (aboveS (q.getD t (bs []))).length ≤ 300 := Nat.le_trans (aboveTo_len _ _) hsz
    obtain ⟨S3, ⟨h4, h5⟩, h6⟩ := tang_b2 (R := R) hk ids r.tup ls n i (q.map LV.str) (q.length : Int) (t : Int) (aboveS (q.getD t (bs []))) hlen _ S2 hoo
    refine ⟨S3, ⟨⟨(h1.keeps h5 (by simp; exact hA.h13)).congr fun p => ?_, (hT.i.keeps h2 (by simp; exact Ne.symm hA.h12)).keeps h5 (by simp; exact hA.h23), h4.congr fun p => ?_, (hT.oi.keeps h2 (by simp; exact Ne.symm hA.h14)).keeps h5 (by simp; exact Ne.symm hA.h34)⟩, hK.trans ((h2.weak ?_).trans (h5.weak ?_))⟩, fun J rec => ?_⟩
    · unfold isIn
      rw [any_take _ q (bs []) t ht, Bool.or_assoc]
    · unfold over
      rw [any_take _ q (bs []) t ht, Bool.or_assoc]
    · intro m hm; left; simp at hm; simp [idL, hm]
    · intro m hm; left; simp at hm; simp [idL, hm]
    · unfold G.steps_tangleOf.b1
      dsimp only
      rw [lt_nat, ifB_pos ht, idxL_nat (by simpa using ht), map_str_get q t ht, asLeaf_str, h3, prog_above hk _ hsz]
      dsimp only
      rw [List.length_map, h6]
      dsimp only
      rw [wrap_succ (by omega)]
  · unfold G.steps_tangleOf.b1
    dsimp only
    rw [lt_nat, ifB_neg (Nat.lt_irrefl _)]
theorem tang_b3 {k : Nat} (hk : Many k) (ids : Ids) (hA : Apart ids) (ls : List LV) (n i : Int) (q : List ByteArray) (hl : q.length ≤ 1000) (hp : ∀ p ∈ q, p.size ≤ 300) {O I OO OI : ByteArray → Bool} (S : List LV) (hS : Tang S ids O I OO OI) :
    ∃ S', (Tang S' ids O (fun p => I p || isIn q p) OO (fun p => OI p || over q p) ∧ Keeps S S' (idL ids)) ∧
      ∀ J : U5 × Ids × List LV × Int × Int × Unit → List LV → Option R,
        rounds (G.steps_tangleOf.b3 k J) k (u5, ids, ls, n, i, q.map .str, (q.length : Int), 0, ()) S = J (u5, ids, ls, n, i, ()) S' := by
  have hk' := hk
  unfold Many at hk'
  have h := loop_all (R := R) (b := fun J => G.steps_tangleOf.b3 k J) (x := fun t => (u5, ids, ls, n, i, q.map LV.str, (q.length : Int), (t : Int), ())) (n := q.length)
    (Inv := fun t S1 => Tang S1 ids O (fun p => I p || isIn (q.take t) p) OO (fun p => OI p || over (q.take t) p) ∧ Keeps S S1 (idL ids))
    (out := fun (J : U5 × Ids × List LV × Int × Int × Unit → List LV → Option R) S' => J (u5, ids, ls, n, i, ()) S')
    (fun t S1 ht hI => ?_) (fun J rec S1 hI => ?_) k (by omega) S ⟨⟨hS.o, hS.i.congr (fun p => by simp [isIn]), hS.oo, hS.oi.congr (fun p => by simp [over])⟩, Keeps.refl _ _⟩
  · obtain ⟨S', ⟨h1, h2⟩, h3⟩ := h
    rw [List.take_length] at h1
    exact ⟨S', ⟨h1, h2⟩, h3⟩
  · obtain ⟨hT, hK⟩ := hI
    have hsz : (q.getD t (bs [])).size ≤ 300 := hp _ (by rw [List.getD_eq_getElem?_getD, List.getElem?_eq_getElem ht]; exact List.getElem_mem ht)
    obtain ⟨S2, h1, h2, h3⟩ := hT.i.put (R := R) (q.getD t (bs []))
    have hoo := hT.oi.keeps h2 (by simp; exact Ne.symm hA.h24)
    have hlen : (aboveS (q.getD t (bs []))).length ≤ 300 := Nat.le_trans (aboveTo_len _ _) hsz
    obtain ⟨S3, ⟨h4, h5⟩, h6⟩ := tang_b4 (R := R) hk ids ls n i (q.map LV.str) (q.length : Int) (t : Int) (aboveS (q.getD t (bs []))) hlen _ S2 hoo
    refine ⟨S3, ⟨⟨(hT.o.keeps h2 (by simp; exact hA.h12)).keeps h5 (by simp; exact hA.h14), (h1.keeps h5 (by simp; exact hA.h24)).congr fun p => ?_, (hT.oo.keeps h2 (by simp; exact Ne.symm hA.h23)).keeps h5 (by simp; exact hA.h34), h4.congr fun p => ?_⟩, hK.trans ((h2.weak ?_).trans (h5.weak ?_))⟩, fun J rec => ?_⟩
    · unfold isIn
      rw [any_take _ q (bs []) t ht, Bool.or_assoc]
    · unfold over
      rw [any_take _ q (bs []) t ht, Bool.or_assoc]
    · intro m hm; left; simp at hm; simp [idL, hm]
    · intro m hm; left; simp at hm; simp [idL, hm]
    · unfold G.steps_tangleOf.b3
      dsimp only
      rw [lt_nat, ifB_pos ht, idxL_nat (by simpa using ht), map_str_get q t ht, asLeaf_str, h3, prog_above hk _ hsz]
      dsimp only
      rw [List.length_map, h6]
      dsimp only
      rw [wrap_succ (by omega)]
  · unfold G.steps_tangleOf.b3
    dsimp only
    rw [lt_nat, ifB_neg (Nat.lt_irrefl _)]
end
end Go.Lm

/- The tangle of all rules, and what clashes with it. -/
set_option maxRecDepth 100000
namespace Go.Lm
section
variable {R : Type}
/-- What the tangle's loops need to know of a rule. -/
structure RuleFit (r : Rule) : Prop where
  on : r.act.outs.length ≤ 100
  os : ∀ p ∈ r.act.outs, p.size ≤ 300
  im : r.ins.length ≤ 1000
  is : ∀ p ∈ r.ins, p.size ≤ 300
def outsIn (l : List Rule) (p : ByteArray) : Bool := l.any fun r => isIn r.act.outs p
def insIn (l : List Rule) (p : ByteArray) : Bool := l.any fun r => isIn r.ins p
def overOuts (l : List Rule) (p : ByteArray) : Bool := l.any fun r => over r.act.outs p
def overIns (l : List Rule) (p : ByteArray) : Bool := l.any fun r => over r.ins p
theorem tang_b0 {k : Nat} (hk : Many k) (ids : Ids) (hA : Apart ids) (l : List Rule) (hn : l.length ≤ 500) (hf : ∀ r ∈ l, RuleFit r) (S : List LV) (hS : Tang S ids (fun _ => false) (fun _ => false) (fun _ => false) (fun _ => false)) :
    ∃ S', (Tang S' ids (outsIn l) (insIn l) (overOuts l) (overIns l) ∧ Keeps S S' (idL ids)) ∧
      ∀ J : U5 × Ids × Unit → List LV → Option R, rounds (G.steps_tangleOf.b0 k J) k (u5, ids, l.map Rule.lv, (l.length : Int), 0, ()) S = J (u5, ids, ()) S' := by
  have hk' := hk
  unfold Many at hk'
  have h := loop_all (R := R) (b := fun J => G.steps_tangleOf.b0 k J) (x := fun t => (u5, ids, l.map Rule.lv, (l.length : Int), (t : Int), ())) (n := l.length)
    (Inv := fun t S1 => Tang S1 ids (outsIn (l.take t)) (insIn (l.take t)) (overOuts (l.take t)) (overIns (l.take t)) ∧ Keeps S S1 (idL ids))
    (out := fun (J : U5 × Ids × Unit → List LV → Option R) S' => J (u5, ids, ()) S')
    (fun t S1 ht hI => ?_) (fun J rec S1 hI => ?_) k (by omega) S ⟨hS, Keeps.refl _ _⟩
  · obtain ⟨S', ⟨h1, h2⟩, h3⟩ := h
    rw [List.take_length] at h1
    exact ⟨S', ⟨h1, h2⟩, h3⟩
  · obtain ⟨hT, hK⟩ := hI
    have fit := hf _ (rule_mem l t ht)
    obtain ⟨S2, ⟨h1, h2⟩, h3⟩ := tang_b1 (R := R) hk ids hA (l.getD t .zero) (l.map Rule.lv) (l.length : Int) (t : Int) fit.on fit.os S1 hT
    obtain ⟨S3, ⟨h4, h5⟩, h6⟩ := tang_b3 (R := R) hk ids hA (l.map Rule.lv) (l.length : Int) (t : Int) (l.getD t .zero).ins fit.im fit.is S2 h1
    refine ⟨S3, ⟨⟨h4.o.congr fun p => ?_, h4.i.congr fun p => ?_, h4.oo.congr fun p => ?_, h4.oi.congr fun p => ?_⟩, hK.trans (h2.trans h5)⟩, fun J rec => ?_⟩
    · unfold outsIn; rw [any_take _ l .zero t ht]
    · unfold insIn; rw [any_take _ l .zero t ht]
    · unfold overOuts; rw [any_take _ l .zero t ht]
    · unfold overIns; rw [any_take _ l .zero t ht]
    · unfold G.steps_tangleOf.b0
      dsimp only
      rw [lt_nat, ifB_pos ht, idxL_nat (by simpa using ht), rule_get l t ht, Rule.mat, rule_cells, List.length_map]
      refine (h3 _).trans ?_
      dsimp only
      rw [List.length_map]
      refine (h6 _).trans ?_
      dsimp only
      rw [wrap_succ (by omega)]
  · unfold G.steps_tangleOf.b0
    dsimp only
    rw [lt_nat, ifB_neg (Nat.lt_irrefl _)]
theorem prog_tangleOf {k : Nat} (hk : Many k) (l : List Rule) (hn : l.length ≤ 500) (hf : ∀ r ∈ l, RuleFit r) (S : List LV) :
    ∃ S', ∃ ids : Ids, (Apart ids ∧ Tang S' ids (outsIn l) (insIn l) (overOuts l) (overIns l) ∧ Keeps S S' [] ∧ ∀ i ∈ idL ids, S.length ≤ i) ∧
      ∀ K : Ids × Unit → List LV → Option R, G.steps_tangleOf.fn k (l.map Rule.lv, ()) S K = K (ids, ()) S' := by
  let ids : Ids := (S.length, S.length + 1, S.length + 2, S.length + 3, ())
  let S4 : List LV := S ++ [.mp .str []] ++ [.mp .str []] ++ [.mp .str []] ++ [.mp .str []]
  have hA : Apart ids := ⟨by simp [ids], by simp [ids], by simp [ids], by simp [ids], by simp [ids], by simp [ids]⟩
  have e : ∀ T : List LV, IsSet (T ++ [.mp .str []]) T.length fun _ => false := IsSet.empty
  have g : ∀ (T : List LV) (id : Nat) (v : LV), IsSet T id (fun _ => false) → IsSet (T ++ [v]) id (fun _ => false) := fun T id v h => h.keeps (Keeps.app T [v] []) (by simp)
  have hT : Tang S4 ids (fun _ => false) (fun _ => false) (fun _ => false) (fun _ => false) :=
    ⟨g _ _ _ (g _ _ _ (g _ _ _ (e S))), g _ _ _ (g _ _ _ (by have := e (S ++ [.mp .str []]); simpa [ids] using this)), g _ _ _ (by have := e (S ++ [.mp .str []] ++ [.mp .str []]); simpa [ids] using this), by have := e (S ++ [.mp .str []] ++ [.mp .str []] ++ [.mp .str []]); simpa [ids, S4] using this⟩
  obtain ⟨S', ⟨h1, h2⟩, h3⟩ := tang_b0 (R := R) hk ids hA l hn hf S4 hT
  have hm : ∀ i ∈ idL ids, S.length ≤ i := by
    intro i hi
    simp [idL, ids] at hi
    omega
  have hS4 : Keeps S S4 [] := by
    have : S4 = S ++ [.mp .str [], .mp .str [], .mp .str [], .mp .str []] := by simp [S4]
    rw [this]; exact Keeps.app _ _ _
  refine ⟨S', ids, ⟨hA, h1, ⟨Nat.le_trans hS4.1 h2.1, fun j hj _ => ?_⟩, hm⟩, fun K => ?_⟩
  · rw [h2.2 j (Nat.lt_of_lt_of_le hj hS4.1) (fun hc => by have := hm j hc; omega), hS4.2 j hj (by simp)]
  · unfold G.steps_tangleOf.fn newObj
    dsimp only
    rw [List.length_map]
    have := h3 fun o S => K ((o.2.1.1, o.2.1.2.1, o.2.1.2.2.1, o.2.1.2.2.2.1, ()), ()) S
    simp only [ids, S4] at this ⊢
    simp only [List.length_append, List.length_cons, List.length_nil, Nat.zero_add] at this ⊢
    exact this
/-! ### What clashes -/
def clashesS (l : List Rule) (p : ByteArray) : Bool := overIns l p || (aboveS p).any fun q => outsIn l q || insIn l q
theorem clash_one (k : Nat) (ids : Ids) (O I OO OI : ByteArray → Bool) (S : List LV) (hT : Tang S ids O I OO OI) (id : Nat) (hid : S.getD id .any = .obj 92 [.map ids.1, .map ids.2.1, .map ids.2.2.1, .map ids.2.2.2.1]) (q : ByteArray) (K : Bool × Unit → List LV → Option R) :
    G.steps_tangle_clashes_1.fn k (q, (id, 0), ()) S K = K (O q || I q, ()) S := by
  unfold G.steps_tangle_clashes_1.fn
  dsimp only
  rw [at_of hid]
  have e : ∀ K : LV → Option R, ldRaw [LV.map ids.1, .map ids.2.1, .map ids.2.2.1, .map ids.2.2.2.1] (0 + 0) K = K (.map ids.1) := fun K => rfl
  have e1 : ∀ K : LV → Option R, ldRaw [LV.map ids.1, .map ids.2.1, .map ids.2.2.1, .map ids.2.2.2.1] (0 + 1) K = K (.map ids.2.1) := fun K => rfl
  have e2 : ∀ i (K : Nat → Option R), asMap (.map i) K = K i := fun i K => rfl
  rw [e, e2, hT.o.get]
  cases O q with
  | true => rfl
  | false =>
    rw [ifB_false, at_of hid, e1, e2, hT.i.get]; rfl
theorem clash_any {k : Nat} (hk : Many k) (ids : Ids) (O I OO OI : ByteArray → Bool) (S : List LV) (hT : Tang S ids O I OO OI) (id : Nat) (hid : S.getD id .any = .obj 92 [.map ids.1, .map ids.2.1, .map ids.2.2.1, .map ids.2.2.2.1]) (q : List ByteArray) (hq : q.length ≤ 300) (K : Bool × Unit → List LV → Option R) :
    G.slices_ContainsFunc_s_string_string_at_steps_tangle_clashes_1.fn k (q.map .str, ((id, 0), ()), ()) S K = K (q.any (fun p => O p || I p), ()) S := by
  unfold Many at hk
  unfold G.slices_ContainsFunc_s_string_string_at_steps_tangle_clashes_1.fn G.slices_IndexFunc_s_string_string_at_steps_tangle_clashes_1.fn
  dsimp only
  rw [List.length_map]
  refine (rounds_scan0 (fun t => (q.map LV.str, ((id, 0), ()), (q.length : Int), (t : Int), ())) S q.length k (fun t => cond (O (q.getD t (bs [])) || I (q.getD t (bs []))) (some (K (true, ()) S)) none) (K (false, ()) S) (fun rec t ht => ?_) (fun rec => ?_) (by omega)).trans ?_
  · unfold G.slices_IndexFunc_s_string_string_at_steps_tangle_clashes_1.b0
    dsimp only
    rw [lt_nat, ifB_pos ht, idxL_nat (by simpa using ht), map_str_get q t ht, asLeaf_str, clash_one k ids O I OO OI S hT id hid, wrap_succ (by omega)]
    cases O (q.getD t (bs [])) || I (q.getD t (bs [])) with
    | true =>
      dsimp only [cond]
      rw [ifB_true, decide_eq_true (show ((t : Int)) ≥ 0 by omega)]
    | false => rfl
  · unfold G.slices_IndexFunc_s_string_string_at_steps_tangle_clashes_1.b0
    dsimp only
    rw [lt_nat, ifB_neg (Nat.lt_irrefl _)]; rfl
  · rw [scan_first0 (bs []) (fun p => O p || I p)]
    cases q.any fun p => O p || I p <;> rfl
theorem prog_clash {k : Nat} (hk : Many k) (l : List Rule) (ids : Ids) (S : List LV) {OO : ByteArray → Bool} (hT : Tang S ids (outsIn l) (insIn l) OO (overIns l)) (p : ByteArray) (hp : p.size ≤ 300) :
    ∃ S', Keeps S S' [] ∧ ∀ K : Bool × Unit → List LV → Option R, G.steps_tangle_clashes.fn k (ids, p, ()) S K = K (clashesS l p, ()) S' := by
  let ob : LV := .obj 92 [.map ids.1, .map ids.2.1, .map ids.2.2.1, .map ids.2.2.2.1]
  have hk1 : Keeps S (S ++ [ob]) [] := Keeps.app _ _ _
  refine ⟨S ++ [ob], hk1, fun K => ?_⟩
  have hT1 : Tang (S ++ [ob]) ids (outsIn l) (insIn l) OO (overIns l) := ⟨hT.o.keeps hk1 (by simp), hT.i.keeps hk1 (by simp), hT.oo.keeps hk1 (by simp), hT.oi.keeps hk1 (by simp)⟩
  have hid : (S ++ [ob]).getD S.length .any = ob := get_end _ _
  unfold G.steps_tangle_clashes.fn newObj clashesS
  dsimp only
  rw [at_of hid]
  have e : ∀ K : LV → Option R, ldRaw [LV.map ids.1, .map ids.2.1, .map ids.2.2.1, .map ids.2.2.2.1] 3 K = K (.map ids.2.2.2.1) := fun K => rfl
  have e2 : ∀ i (K : Nat → Option R), asMap (.map i) K = K i := fun i K => rfl
  rw [e, e2, hT1.oi.get]
  cases overIns l p with
  | true => rfl
  | false =>
    rw [ifB_false, prog_above hk p hp]
    dsimp only
    rw [clash_any hk ids (outsIn l) (insIn l) OO (overIns l) _ hT1 S.length hid (aboveS p) (Nat.le_trans (aboveTo_len _ _) hp)]
    rfl
end
end Go.Lm

/- The reference: outputs beside all others, rules one by one. -/
set_option maxRecDepth 100000
namespace Go.Lm
section
variable {R : Type}
structure RulesOk (l : List Rule) : Prop where
  n : l.length ≤ 140737488355328
  r : ∀ r ∈ l, RuleOk r
  on : ∀ r ∈ l, r.act.outs.length ≤ 140737488355328
  is : ∀ r ∈ l, ∀ p ∈ r.ins, p.size ≤ 140737488355328
def ruleName (l : List Rule) (i : Nat) : ByteArray := (l.getD i .zero).name
def nameE (l : List Rule) (i : Nat) : Option Int := cond (ruleS (l.getD i .zero) == 0) (cond (decide (0 < i) && (strLt (ruleName l i) (ruleName l (i - 1)) || strEq (ruleName l i) (ruleName l (i - 1)))) (some 8) none) (some (ruleS (l.getD i .zero)))
def clashOuts (l : List Rule) (i : Nat) (p : ByteArray) (k : Nat) : Bool := (!(k == i)) && (l.getD k .zero).act.outs.any fun q => liesS p q
def clashIns (l : List Rule) (p : ByteArray) (k : Nat) : Bool := (l.getD k .zero).ins.any fun q => liesS p q || liesS q p
def clashAt (l : List Rule) (i : Nat) (p : ByteArray) (k : Nat) : Bool := clashOuts l i p k || clashIns l p k
def refClash (l : List Rule) (i : Nat) (p : ByteArray) : Bool := (List.range l.length).any (clashAt l i p)
def outE (l : List Rule) (i : Nat) (p : ByteArray) : Option Int := cond (outsIn (l.take i) p) (some 7) (cond (refClash l i p) (some 12) none)
def outAt (l : List Rule) (i j : Nat) : ByteArray := (l.getD i .zero).act.outs.getD j (bs [])
def ruleOutE (l : List Rule) (i : Nat) : Option Int := scanE (fun j => outE l i (outAt l i j)) (l.getD i .zero).act.outs.length 0
def allOutE (l : List Rule) : Option Int := scanE (ruleOutE l) l.length 0
theorem scan_range {β : Type} (f : Nat → Bool) (a b : β) : ∀ d i, scan (fun k => cond (f k) (some a) none) b d i = cond ((List.range' i d).any f) a b
  | 0, i => rfl
  | d + 1, i => by
    simp only [scan, List.range'_succ, List.any_cons]
    cases f i with
    | true => rfl
    | false => exact scan_range f a b d (i + 1)
theorem scan_range0 {β : Type} (f : Nat → Bool) (a b : β) (n : Nat) : scan (fun k => cond (f k) (some a) none) b n 0 = cond ((List.range n).any f) a b := by
  rw [scan_range, List.range_eq_range']
theorem scan_scanE {β : Type} (f : Int → β) (fin : β) (e : Nat → Option Int) (d i : Nat) : scan (fun j => (e j).map f) fin d i = ((scanE e d i).map f).getD fin := scan_firstE f fin e d i
theorem ref_has {k : Nat} (hk : Many k) (l : List ByteArray) (hl : l.length ≤ 140737488355328) (p : ByteArray) (S : List LV) (K : Bool × Unit → List LV → Option R) : G.smithyardref6_has.fn k (l.map .str, p, ()) S K = K (isIn l p, ()) S := by
  unfold Many at hk
  unfold G.smithyardref6_has.fn
  refine (rounds_scan0 (fun t => (l.map LV.str, p, (t : Int), ())) S l.length k (fun t => cond (decide (l.getD t (bs []) = p)) (some (K (true, ()) S)) none) (K (false, ()) S) (fun rec t ht => ?_) (fun rec => ?_) (by omega)).trans ?_
  · unfold G.smithyardref6_has.b0
    dsimp only
    rw [List.length_map, lt_nat, ifB_pos ht, idxL_nat (by simpa using ht), map_str_get l t ht, asLeaf_str, strEq_dec, wrap_succ (by omega)]
    cases decide (l.getD t (bs []) = p) <;> rfl
  · unfold G.smithyardref6_has.b0
    dsimp only
    rw [List.length_map, lt_nat, ifB_neg (Nat.lt_irrefl _)]
  · rw [scan_first0 (bs []) (fun a => decide (a = p))]
    unfold isIn
    cases l.any fun a => decide (a = p) <;> rfl
theorem ref_nested (k : Nat) (p q : ByteArray) (hp : p.size ≤ 140737488355328) (hq : q.size ≤ 140737488355328) (S : List LV) (K : Bool × Unit → List LV → Option R) : G.smithyardref6_nested.fn k (p, q, ()) S K = K (liesS p q || liesS q p, ()) S := by
  unfold G.smithyardref6_nested.fn
  dsimp only
  rw [ref_Lies k p q hq]
  dsimp only
  cases liesS p q with
  | true => rfl
  | false => rw [ifB_false, ref_Lies k q p hp]; rfl
theorem ne_nat (i n : Nat) : ((i : Int) != (n : Int)) = !(i == n) := by
  rw [show ((i : Int) != (n : Int)) = !((i : Int) == (n : Int)) from rfl]
  congr 1
  rw [Bool.eq_iff_iff, beq_iff_eq, beq_iff_eq]; omega
theorem co_b2 {k : Nat} (hk : Many k) (l : List Rule) (ok : RulesOk l) (i t : Nat) (ht : t < l.length) (p : ByteArray) (S : List LV) (J : List LV × Int × ByteArray × Int × Unit → List LV → Option R) (Jr : Int × Unit → List LV → Option R) :
    rounds (G.smithyardref6_checkOutput.b2 k J Jr) k (l.map Rule.lv, (i : Int), p, (t : Int), 0, ()) S = cond (clashOuts l i p t) (Jr (12, ()) S) (J (l.map Rule.lv, (i : Int), p, (t : Int), ()) S) := by
  unfold Many at hk
  have hm := rule_mem l t ht
  generalize hr : l.getD t .zero = r at *
  have hget : ∀ (j : Int) (K : LV → Option R), idxL (l.map Rule.lv) (t : Int) K = K r.lv := fun j K => by rw [idxL_nat (by simpa using ht), rule_get l t ht, hr]
  have hon := ok.on r hm
  cases hti : t == i with
  | true =>
    obtain ⟨m, hkm⟩ : ∃ m, k = m + 1 := ⟨k - 1, by omega⟩
    conv => lhs; arg 2; rw [hkm]
    rw [rounds_succ]
    unfold G.smithyardref6_checkOutput.b2
    dsimp only
    rw [hget 0, rule_outs, ne_nat, hti, Bool.not_true, ifB_false]
    unfold clashOuts
    rw [hti]
    cases hl : decide ((0 : Int) < ((r.act.outs.map LV.str).length : Int)) <;> rfl
  | false =>
    refine (rounds_scan0 (fun j => (l.map Rule.lv, (i : Int), p, (t : Int), (j : Int), ())) S r.act.outs.length k (fun j => cond (liesS p (r.act.outs.getD j (bs []))) (some (Jr (12, ()) S)) none) (J (l.map Rule.lv, (i : Int), p, (t : Int), ()) S) (fun rec j hj => ?_) (fun rec => ?_) (by omega)).trans ?_
    · unfold G.smithyardref6_checkOutput.b2 G.smithyardref6_checkOutput.q0
      dsimp only
      have hq : (r.act.outs.getD j (bs [])).size ≤ 140737488355328 := (ok.r r hm).act.outs _ (by rw [List.getD_eq_getElem?_getD, List.getElem?_eq_getElem hj]; exact List.getElem_mem hj)
      rw [hget 0, rule_outs, List.length_map, lt_nat, ifB_pos hj, ne_nat, hti, Bool.not_false, ifB_true, hget 0, rule_outs, idxL_nat (by simpa using hj), map_str_get _ j hj, asLeaf_str, ref_Lies k p _ hq, wrap_succ (by omega)]
      cases liesS p (r.act.outs.getD j (bs [])) <;> rfl
    · unfold G.smithyardref6_checkOutput.b2
      dsimp only
      rw [hget 0, rule_outs, List.length_map, lt_nat, ifB_neg (Nat.lt_irrefl _)]
    · rw [scan_first0 (bs []) (fun q => liesS p q)]
      unfold clashOuts
      rw [hr, hti, Bool.not_false, Bool.true_and]
theorem co_b3 {k : Nat} (hk : Many k) (l : List Rule) (ok : RulesOk l) (i t : Nat) (ht : t < l.length) (p : ByteArray) (hp : p.size ≤ 140737488355328) (S : List LV) (J : List LV × Int × ByteArray × Int × Unit → List LV → Option R) (Jr : Int × Unit → List LV → Option R) :
    rounds (G.smithyardref6_checkOutput.b3 k J Jr) k (l.map Rule.lv, (i : Int), p, (t : Int), 0, ()) S = cond (clashIns l p t) (Jr (12, ()) S) (J (l.map Rule.lv, (i : Int), p, (t : Int), ()) S) := by
  unfold Many at hk
  have hm := rule_mem l t ht
  generalize hr : l.getD t .zero = r at *
  have hget : ∀ (K : LV → Option R), idxL (l.map Rule.lv) (t : Int) K = K r.lv := fun K => by rw [idxL_nat (by simpa using ht), rule_get l t ht, hr]
  have hon := (ok.r r hm).ins
  refine (rounds_scan0 (fun j => (l.map Rule.lv, (i : Int), p, (t : Int), (j : Int), ())) S r.ins.length k (fun j => cond (liesS p (r.ins.getD j (bs [])) || liesS (r.ins.getD j (bs [])) p) (some (Jr (12, ()) S)) none) (J (l.map Rule.lv, (i : Int), p, (t : Int), ()) S) (fun rec j hj => ?_) (fun rec => ?_) (by omega)).trans ?_
  · unfold G.smithyardref6_checkOutput.b3
    dsimp only
    have hq : (r.ins.getD j (bs [])).size ≤ 140737488355328 := ok.is r hm _ (by rw [List.getD_eq_getElem?_getD, List.getElem?_eq_getElem hj]; exact List.getElem_mem hj)
    rw [hget, rule_ins, List.length_map, lt_nat, ifB_pos hj, hget, rule_ins, idxL_nat (by simpa using hj), map_str_get _ j hj, asLeaf_str, ref_nested k p _ hp hq, wrap_succ (by omega)]
    cases liesS p (r.ins.getD j (bs [])) || liesS (r.ins.getD j (bs [])) p <;> rfl
  · unfold G.smithyardref6_checkOutput.b3
    dsimp only
    rw [hget, rule_ins, List.length_map, lt_nat, ifB_neg (Nat.lt_irrefl _)]
  · rw [scan_first0 (bs []) (fun q => liesS p q || liesS q p)]
    unfold clashIns
    rw [hr]
theorem ref_checkOutput {k : Nat} (hk : Many k) (l : List Rule) (ok : RulesOk l) (i : Nat) (hi : i < l.length) (p : ByteArray) (hp : p.size ≤ 140737488355328) (S : List LV) (K : Int × Unit → List LV → Option R) :
    G.smithyardref6_checkOutput.fn k (l.map Rule.lv, (i : Int), p, ()) S K = K ((outE l i p).getD 0, ()) S := by
  have hk' := hk
  have hn := ok.n
  unfold Many at hk'
  unfold G.smithyardref6_checkOutput.fn
  refine (rounds_scan0 (fun t => (l.map Rule.lv, (i : Int), p, (t : Int), ())) S i k (fun t => cond (isIn (l.getD t .zero).act.outs p) (some (K (7, ()) S)) none) (K ((cond (refClash l i p) (some (12 : Int)) none).getD 0, ()) S) (fun rec t ht => ?_) (fun rec => ?_) (by omega)).trans ?_
  · have htl : t < l.length := by omega
    unfold G.smithyardref6_checkOutput.b0
    dsimp only
    rw [lt_nat, ifB_pos ht, idxL_nat (by simpa using htl), rule_get l t htl, rule_outs, ref_has hk _ (ok.on _ (rule_mem l t htl)), wrap_succ (by omega)]
    cases isIn (l.getD t .zero).act.outs p <;> rfl
  · unfold G.smithyardref6_checkOutput.b0
    dsimp only
    rw [lt_nat, ifB_neg (Nat.lt_irrefl _)]
    refine (rounds_scan0 (fun t => (l.map Rule.lv, (i : Int), p, (t : Int), ())) S l.length k (fun t => cond (clashAt l i p t) (some (K (12, ()) S)) none) (K (0, ()) S) (fun rec t ht => ?_) (fun rec => ?_) (by omega)).trans ?_
    · unfold G.smithyardref6_checkOutput.b1
      dsimp only
      rw [List.length_map, lt_nat, ifB_pos ht, co_b2 hk l ok i t ht p]
      unfold clashAt
      cases clashOuts l i p t with
      | true => rfl
      | false =>
        dsimp only [cond]
        rw [co_b3 hk l ok i t ht p hp, Bool.false_or]
        cases clashIns l p t with
        | true => rfl
        | false =>
          dsimp only [cond]
          rw [wrap_succ (by omega)]
    · unfold G.smithyardref6_checkOutput.b1
      dsimp only
      rw [List.length_map, lt_nat, ifB_neg (Nat.lt_irrefl _)]
    · rw [scan_range0]
      unfold refClash
      cases (List.range l.length).any (clashAt l i p) <;> rfl
  · have e : ∀ d j, j + d = i → scan (fun t => cond (isIn (l.getD t .zero).act.outs p) (some (K (7, ()) S)) none) (K ((cond (refClash l i p) (some (12 : Int)) none).getD 0, ()) S) d j = cond (((l.take i).drop j).any fun r => isIn r.act.outs p) (K (7, ()) S) (K ((cond (refClash l i p) (some (12 : Int)) none).getD 0, ()) S) := fun d => by
      induction d with
      | zero =>
        intro j hj
        rw [List.drop_of_length_le (by rw [List.length_take]; omega)]; rfl
      | succ d ih =>
        intro j hj
        have hlt : j < (l.take i).length := by rw [List.length_take]; omega
        rw [List.drop_eq_getElem_cons hlt, List.any_cons]
        have e1 : l.getD j .zero = (l.take i)[j] := by rw [List.getD_eq_getElem?_getD, List.getElem?_eq_getElem (by omega : j < l.length)]; simp
        simp only [scan]
        rw [e1]
        cases isIn (l.take i)[j].act.outs p with
        | true => rfl
        | false => exact ih (j + 1) (by omega)
    rw [e i 0 (by omega), List.drop_zero]
    unfold outE outsIn
    cases (l.take i).any fun r => isIn r.act.outs p <;> rfl
end
end Go.Lm

/- The reference's order: the least one that is ready, again and again. -/
set_option maxRecDepth 100000
namespace Go.Lm
section
variable {R : Type}
def ints (l : List Nat) : List LV := l.map fun (n : Nat) => LV.int .i64 (n : Int)
def bools (l : List Bool) : List LV := l.map LV.bool
theorem ints_len (l : List Nat) : (ints l).length = l.length := by simp [ints]
theorem bools_len (l : List Bool) : (bools l).length = l.length := by simp [bools]
theorem ints_get (l : List Nat) (i : Nat) (h : i < l.length) : (ints l).getD i .any = .int .i64 ((l.getD i 0 : Nat) : Int) := by simp [ints, List.getD_eq_getElem?_getD, h]
theorem bools_get (l : List Bool) (i : Nat) (h : i < l.length) : (bools l).getD i .any = .bool (l.getD i false) := by simp [bools, List.getD_eq_getElem?_getD, h]
theorem ints_snoc (l : List Nat) (n : Nat) : ints l ++ [.int .i64 (n : Int)] = ints (l ++ [n]) := by simp [ints]
theorem leaf_int (n : Int) (K : Int → Option R) : asInt .i64 (leaf (.int .i64 n) 0) K = K n := asInt_int _ _ _
theorem leaf_bool (b : Bool) (K : Bool → Option R) : asBool (leaf (.bool b) 0) K = K b := rfl
theorem idxN_nat {n i : Nat} (h : i < n) (K : Nat → Option R) : idxN n (i : Int) K = K i := by
  unfold idxN
  rw [ifB_pos ⟨by omega, by omega⟩, Int.toNat_natCast]
theorem zeros_bool (n : Nat) : zeros n [.bool false] = bools (List.replicate n false) := by
  unfold zeros bools
  rw [List.map_replicate]
  induction n with
  | zero => rfl
  | succ n ih => rw [List.replicate_succ, List.flatten_cons, ih]; rfl
theorem zeros_nil (n : Nat) (v : LV) : zeros n [v] = List.replicate n v := by
  unfold zeros
  induction n with
  | zero => rfl
  | succ n ih => rw [List.replicate_succ, List.flatten_cons, ih]; rfl
theorem mkN_nat {n b : Nat} (h : b * n ≤ 140737488355328) (K : Nat → Option R) (hb : n ≤ 140737488355328) : mkN (n : Int) b K = K n := by
  unfold mkN
  rw [ifB_pos ⟨by omega, by rw [← Int.natCast_mul]; omega, by omega⟩, Int.toNat_natCast]
/-- A list of booleans as an object. -/
def BoolsAt (S : List LV) (id : Nat) (d : List Bool) : Prop := S.getD id .any = .obj 4 (bools d)
theorem BoolsAt.ld {S : List LV} {id : Nat} {d : List Bool} (h : BoolsAt S id d) {i : Nat} (hi : i < d.length) (K : Bool → Option R) : (objAt S id fun _ c => ldBool c (0 + i * 1) K) = K (d.getD i false) := by
  rw [at_of h]
  unfold ldBool
  rw [Nat.zero_add, Nat.mul_one, bools_len, show Nat.blt i d.length = true from Nat.ble_eq_true_of_le hi, ifB_true, bools_get d i hi]
  rfl
theorem setFrom_one (xs : List LV) (i : Nat) (v : LV) (_h : i < xs.length) : setFrom xs i [v] = xs.set i v := rfl
theorem bools_set (d : List Bool) (i : Nat) (b : Bool) : (bools d).set i (.bool b) = bools (d.set i b) := by simp [bools, List.map_set]
theorem BoolsAt.st {S : List LV} {id : Nat} {d : List Bool} (h : BoolsAt S id d) {i : Nat} (hi : i < d.length) (b : Bool) (K : List LV → Option R) :
    (objAt S id fun ty c => stO c (0 + i * 1) [.bool b] fun c' => setS (S.set id (ty c')) K) = K (S.set id (.obj 4 (bools (d.set i b)))) := by
  rw [at_of h]
  unfold stO
  have hl : i < (bools d).length := by rw [bools_len]; exact hi
  rw [Nat.zero_add, Nat.mul_one, show Nat.ble (i + ([LV.bool b] : List LV).length) (bools d).length = true from Nat.ble_eq_true_of_le hl, ifB_true, setFrom_one _ _ _ hl, bools_set]
  rfl
theorem BoolsAt.set {S : List LV} {id : Nat} {d : List Bool} (h : BoolsAt S id d) (d' : List Bool) : BoolsAt (S.set id (.obj 4 (bools d'))) id d' := has_set h _
def rdyS (need : List Nat) (d : List Bool) : Bool := need.all fun k => d.getD k false
/-- Rows of numbers, as functions read them. -/
def RowsAt (rows : List LV) (need : List (List Nat)) : Prop := rows.length = need.length ∧ ∀ i, i < need.length → ∀ {R : Type} (K : List LV → Option R), asSl 1 (leaf (rows.getD i .any) 0) K = K (ints (need.getD i []))
def Small (need : List (List Nat)) : Prop := need.length ≤ 500 ∧ ∀ r ∈ need, r.length ≤ 500 ∧ ∀ k ∈ r, k < need.length
theorem Small.get {need : List (List Nat)} (h : Small need) (i : Nat) (hi : i < need.length) : (need.getD i []).length ≤ 500 ∧ ∀ k ∈ need.getD i [], k < need.length :=
  h.2 _ (by rw [List.getD_eq_getElem?_getD, List.getElem?_eq_getElem hi]; exact List.getElem_mem hi)
theorem ref_ready {k : Nat} (hk : Many k) (nd : List Nat) (hn : nd.length ≤ 500) (d : List Bool) (hd : ∀ k ∈ nd, k < d.length) (id : Nat) (S : List LV) (hS : BoolsAt S id d) (K : Bool × Unit → List LV → Option R) :
    G.smithyardref6_ready_osl.fn k (ints nd, (id, 0, d.length), ()) S K = K (rdyS nd d, ()) S := by
  unfold Many at hk
  unfold G.smithyardref6_ready_osl.fn
  refine (rounds_scan0 (fun t => (ints nd, (id, 0, d.length), (t : Int), ())) S nd.length k (fun t => cond (!(d.getD (nd.getD t 0) false)) (some (K (false, ()) S)) none) (K (true, ()) S) (fun rec t ht => ?_) (fun rec => ?_) (by omega)).trans ?_
  · have hlt : nd.getD t 0 < d.length := hd _ (by rw [List.getD_eq_getElem?_getD, List.getElem?_eq_getElem ht]; exact List.getElem_mem ht)
    unfold G.smithyardref6_ready_osl.b0
    dsimp only
    rw [ints_len, lt_nat, ifB_pos ht, idxL_nat (by rw [ints_len]; exact ht), ints_get nd t ht, leaf_int, idxN_nat hlt, hS.ld hlt, wrap_succ (by omega)]
    cases d.getD (nd.getD t 0) false <;> rfl
  · unfold G.smithyardref6_ready_osl.b0
    dsimp only
    rw [ints_len, lt_nat, ifB_neg (Nat.lt_irrefl _)]
  · rw [scan_first0 0 (fun j => !(d.getD j false))]
    unfold rdyS
    rw [List.all_eq_not_any_not]
    cases nd.any fun j => !(d.getD j false) <;> rfl
/-! ### The next one -/
def goodAt (need : List (List Nat)) (inn d : List Bool) (i : Nat) : Bool := inn.getD i false && !(d.getD i false) && rdyS (need.getD i []) d
def leftAt (inn d : List Bool) (i : Nat) : Bool := inn.getD i false && !(d.getD i false)
abbrev OrdT := List LV × List LV × (Nat × Nat × Nat) × List LV × Int × Bool × Unit
theorem next_rounds {k : Nat} (hk : Many k) (rows : List LV) (need : List (List Nat)) (hr : RowsAt rows need) (hs : Small need) (inn d : List Bool) (hi : inn.length = need.length) (hd : d.length = need.length) (id : Nat) (out : List LV) (S : List LV) (hS : BoolsAt S id d) (J : OrdT → List LV → Option R) :
    ∀ (c i fuel : Nat), i + c = need.length → c + 1 < fuel →
      rounds (G.smithyardref6_ordered.b1 k J) fuel (rows, bools inn, (id, 0, need.length), out, -1, (List.range i).any (leftAt inn d), (i : Int), ()) S =
        match (List.range' i c).find? (goodAt need inn d) with
        | some j => J (rows, bools inn, (id, 0, need.length), out, (j : Int), true, ()) S
        | none => J (rows, bools inn, (id, 0, need.length), out, -1, (List.range need.length).any (leftAt inn d), ()) S
  | 0, i, fuel, hc, hf => by
    obtain ⟨m, rfl⟩ : ∃ m, fuel = m + 1 := ⟨fuel - 1, by omega⟩
    have : i = need.length := by omega
    subst this
    rw [rounds_succ]
    unfold G.smithyardref6_ordered.b1
    dsimp only
    rw [hr.1, lt_nat, ifB_neg (Nat.lt_irrefl _)]
    simp only [List.range'_zero, List.find?_nil]
  | c + 1, i, fuel, hc, hf => by
    obtain ⟨m, rfl⟩ : ∃ m, fuel = m + 2 := ⟨fuel - 2, by omega⟩
    have hlt : i < need.length := by omega
    have hlen := hs.1
    have ih := next_rounds hk rows need hr hs inn d hi hd id out S hS J c (i + 1) (m + 1) (by omega) (by omega)
    rw [List.range_succ, List.any_append] at ih
    simp only [List.any_cons, List.any_nil, Bool.or_false] at ih
    rw [rounds_succ, List.range'_succ, List.find?_cons]
    generalize hrec : rounds (G.smithyardref6_ordered.b1 k J) (m + 1) = rec at ih ⊢
    unfold G.smithyardref6_ordered.b1 G.smithyardref6_ordered.q1 G.smithyardref6_ordered.q0
    dsimp only
    rw [hr.1, lt_nat, ifB_pos hlt, ifB_pos (by decide), idxL_nat (by rw [bools_len, hi]; exact hlt), bools_get inn i (by omega), leaf_bool]
    have hg : goodAt need inn d i = (leftAt inn d i && rdyS (need.getD i []) d) := rfl
    have hl : leftAt inn d i = (inn.getD i false && !(d.getD i false)) := rfl
    rw [hg]
    rw [hl] at ih
    rw [hl]
    generalize inn.getD i false = b1 at ih ⊢
    cases b1 with
    | false =>
      simp only [Bool.false_and, ifB_false, Bool.or_false] at ih ⊢
      rw [wrap_succ (by omega)]
      exact ih
    | true =>
      rw [ifB_true, idxN_nat hlt, hS.ld (by omega)]
      generalize d.getD i false = b2 at ih ⊢
      cases b2 with
      | true =>
        simp only [Bool.not_true, Bool.and_false, Bool.false_and, ifB_false, Bool.or_false] at ih ⊢
        rw [wrap_succ (by omega)]
        exact ih
      | false =>
        simp only [Bool.not_false, Bool.and_true, Bool.true_and, ifB_true, Bool.or_true] at ih ⊢
        rw [idxL_nat (by rw [hr.1]; exact hlt), hr.2 i hlt]
        have hrd := fun K => ref_ready (R := R) hk (need.getD i []) (hs.get i hlt).1 d (fun k hk => by rw [hd]; exact (hs.get i hlt).2 k hk) id S hS K
        rw [hd] at hrd
        rw [hrd]
        dsimp only
        rw [wrap_succ (by omega)]
        cases rdyS (need.getD i []) d with
        | false =>
          rw [ifB_false]
          dsimp only
          exact ih
        | true =>
          rw [ifB_true, ← hrec, rounds_succ]
          unfold G.smithyardref6_ordered.b1
          dsimp only
          rw [hr.1, lt_nat]
          cases decide (i + 1 < need.length) with
          | false => rfl
          | true => rw [ifB_true, ifB_neg (by omega)]
/-! ### All of them -/
def nextS (need : List (List Nat)) (inn d : List Bool) : Option Nat := (List.range need.length).find? (goodAt need inn d)
def ordS (need : List (List Nat)) (inn : List Bool) : Nat → List Bool → List Nat → List Nat × Bool
  | 0, _, out => (out, false)
  | f + 1, d, out => match nextS need inn d with
    | some i => ordS need inn f (d.set i true) (out ++ [i])
    | none => (out, !((List.range need.length).any (leftAt inn d)))
def orderedS (need : List (List Nat)) (inn : List Bool) : List Nat × Bool := ordS need inn (need.length + 1) (List.replicate need.length false) []
theorem nextS_some {need : List (List Nat)} {inn d : List Bool} {i : Nat} (h : nextS need inn d = some i) : i < need.length ∧ goodAt need inn d i = true :=
  ⟨List.mem_range.1 (List.mem_of_find?_eq_some h), List.find?_some h⟩
theorem count_set {d : List Bool} {i : Nat} (hi : i < d.length) (h : d.getD i false = false) : (d.set i true).count false + 1 = d.count false := by
  induction d generalizing i with
  | nil => simp at hi
  | cons b d ih =>
    cases i with
    | zero =>
      have : b = false := h
      subst this
      simp
    | succ i =>
      have := ih (i := i) (by simpa using hi) h
      simp only [List.set_cons_succ, List.count_cons]
      omega
theorem ord_rounds {k : Nat} (hk : Many k) (rows : List LV) (need : List (List Nat)) (hr : RowsAt rows need) (hs : Small need) (inn : List Bool) (hi : inn.length = need.length) (id : Nat) :
    ∀ (f : Nat) (d : List Bool) (out : List Nat) (fuel : Nat) (S : List LV), d.length = need.length → d.count false < f → out.length + d.count false ≤ need.length → f ≤ fuel → BoolsAt S id d →
      ∃ S', Keeps S S' [id] ∧ ∀ Jr : List LV × Bool × Unit → List LV → Option R,
        rounds (G.smithyardref6_ordered.b0 k Jr) fuel (rows, bools inn, (id, 0, need.length), ints out, ()) S = Jr (ints (ordS need inn f d out).1, (ordS need inn f d out).2, ()) S'
  | 0, d, out, fuel, S, hd, hf, ho, hfu, hS => absurd hf (by omega)
  | f + 1, d, out, fuel, S, hd, hf, ho, hfu, hS => by
    obtain ⟨m, rfl⟩ : ∃ m, fuel = m + 1 := ⟨fuel - 1, by omega⟩
    have hk' := hk
    unfold Many at hk'
    have hlen := hs.1
    have hnx := fun J => next_rounds (R := R) hk rows need hr hs inn d hi hd id (ints out) S hS J need.length 0 k (by omega) (by omega)
    rw [← List.range_eq_range'] at hnx
    unfold ordS
    cases hn : nextS need inn d with
    | none =>
      refine ⟨S, Keeps.refl _ _, fun Jr => ?_⟩
      rw [rounds_succ]
      unfold G.smithyardref6_ordered.b0
      refine (hnx _).trans ?_
      unfold nextS at hn
      rw [hn]
      dsimp only
      rw [ifB_pos (by decide)]
    | some i =>
      obtain ⟨hil, hg⟩ := nextS_some hn
      have hdf : d.getD i false = false := by
        unfold goodAt at hg
        simp only [Bool.and_eq_true, Bool.not_eq_true'] at hg
        exact hg.1.2
      have hc := count_set (d := d) (by omega) hdf
      obtain ⟨S', h1, h2⟩ := ord_rounds hk rows need hr hs inn hi id f (d.set i true) (out ++ [i]) m (S.set id (.obj 4 (bools (d.set i true)))) (by simp [hd]) (by omega) (by simp; omega) (by omega) (hS.set _)
      refine ⟨S', (Keeps.set _ _ _).trans h1, fun Jr => ?_⟩
      rw [rounds_succ]
      unfold G.smithyardref6_ordered.b0
      refine (hnx _).trans ?_
      unfold nextS at hn
      rw [hn]
      dsimp only
      rw [ifB_neg (by omega), idxN_nat hil, hS.st (by omega), app_one (by rw [ints_len]; omega) (by rw [ints_len]; omega), ints_snoc]
      exact h2 Jr
theorem ints_noId (n : Nat) (l : List Nat) : (ints l).all (noId n) = true := by
  unfold ints
  rw [List.all_map, List.all_eq_true]
  intro x _
  cases n <;> rfl
theorem ref_ordered {k : Nat} (hk : Many k) (rows : List LV) (need : List (List Nat)) (hr : RowsAt rows need) (hs : Small need) (inn : List Bool) (hi : inn.length = need.length) (S : List LV) (K : List LV × Bool × Unit → List LV → Option R) :
    G.smithyardref6_ordered.fn k (rows, bools inn, ()) S K = K (ints (orderedS need inn).1, (orderedS need inn).2, ()) S := by
  have hk' := hk
  unfold Many at hk'
  have hlen := hs.1
  obtain ⟨S', h1, h2⟩ := ord_rounds (R := LV × List LV) hk rows need hr hs inn hi S.length (need.length + 1) (List.replicate need.length false) [] k (S ++ [.obj 4 (bools (List.replicate need.length false))]) (by simp) (by simp [List.count_replicate]) (by simp [List.count_replicate]) (by omega) (by unfold BoolsAt; exact get_end _ _)
  have h3 : Keeps S S' [] := (((Keeps.app S [.obj 4 (bools (List.replicate need.length false))] [S.length]).trans h1).weak (fun m hm => by simp at hm; omega))
  obtain ⟨G', hG⟩ := h3.grown
  unfold G.smithyardref6_ordered.fn
  refine popK_at (rs := G.smithyardref6_ordered.rs) (r := ((ints (orderedS need inn).1, (orderedS need inn).2, ()) : List LV × Bool × Unit)) (G := G') ?_ ?_
  · unfold G.smithyardref6_ordered.fn0
    dsimp only
    rw [hr.1, ifB_pos rfl, mkN_nat (by omega) _ (by omega)]
    unfold newObj
    dsimp only
    rw [zeros_bool, ← hG]
    exact h2 _
  · show ([LV.own 3 1 (ints (orderedS need inn).1), .bool (orderedS need inn).2].all (noId 5)) = true
    have h : noId 5 (LV.own 3 1 (ints (orderedS need inn).1)) = true := ints_noId 4 _
    rw [List.all_cons, h]; rfl
end
end Go.Lm

/- The reference: who needs whom; what is wrong with rules. -/
set_option maxRecDepth 100000
namespace Go.Lm
section
variable {R : Type}
def usesS (l : List Rule) (i k : Nat) : Bool := (l.getD k .zero).act.outs.any fun q => isIn (l.getD i .zero).ins q
def needsTo (l : List Rule) (i t : Nat) : List Nat := (List.range t).filter (usesS l i)
def needsS (l : List Rule) (i : Nat) : List Nat := needsTo l i l.length
def needsAll (l : List Rule) : List (List Nat) := (List.range l.length).map (needsS l)
def rowR (l : List Nat) : LV := match l with
  | [] => .nilsl
  | l => .own 3 1 (ints l)
theorem rowR_own (l : List Nat) (K : List LV → Option R) : asOwn 3 1 (rowR l) K = K (ints l) := by
  cases l <;> rfl
theorem rowR_snoc (l : List Nat) (n : Nat) : LV.own 3 1 (ints (l ++ [n])) = rowR (l ++ [n]) := by
  cases l <;> rfl
def RowsObj (S : List LV) (id n : Nat) (f : Nat → List Nat) : Prop := S.getD id .any = .obj 45 ((List.range n).map fun i => rowR (f i))
theorem set_range {n i : Nat} (g : Nat → LV) (v : LV) : ((List.range n).map g).set i v = (List.range n).map fun j => cond (j == i) v (g j) := by
  apply List.ext_getElem?
  intro j
  rw [List.getElem?_set, List.getElem?_map, List.getElem?_map]
  rcases Nat.lt_or_ge j n with h | h
  · rw [List.getElem?_range h]
    by_cases e : i = j
    · subst e; simp [h]
    · simp [e, show (j == i) = false by simp; omega]
  · have : (List.range n)[j]? = none := by simp [h]
    rw [this]
    by_cases e : i = j
    · subst e; simp; omega
    · simp [e]
theorem needsTo_succ (l : List Rule) (i t : Nat) : needsTo l i (t + 1) = cond (usesS l i t) (needsTo l i t ++ [t]) (needsTo l i t) := by
  unfold needsTo
  rw [List.range_succ, List.filter_append, List.filter_cons]
  cases usesS l i t <;> simp
theorem needsTo_len (l : List Rule) (i t : Nat) : (needsTo l i t).length ≤ t := by
  have := List.length_filter_le (usesS l i) (List.range t)
  rw [List.length_range] at this
  exact this
abbrev NdT := List LV × (Nat × Nat × Nat) × Int × Int × Bool × Unit
theorem nd_b2 {k : Nat} (hk : Many k) (l : List Rule) (ok : RulesOk l) (ids : Nat × Nat × Nat) (i t : Nat) (hi : i < l.length) (ht : t < l.length) (S : List LV) (J : NdT → List LV → Option R) :
    rounds (G.smithyardref6_needs.b2 k J) k (l.map Rule.lv, ids, (i : Int), (t : Int), false, 0, ()) S = J (l.map Rule.lv, ids, (i : Int), (t : Int), usesS l i t, ()) S := by
  have hk' := hk
  unfold Many at hk'
  have hm := rule_mem l t ht
  have hmi := rule_mem l i hi
  have hon := ok.on _ hm
  have hin := (ok.r _ hmi).ins
  unfold usesS
  generalize hr : l.getD t .zero = r at *
  generalize hri : l.getD i .zero = ri at *
  have hget : ∀ (K : LV → Option R), idxL (l.map Rule.lv) (t : Int) K = K r.lv := fun K => by rw [idxL_nat (by simpa using ht), rule_get l t ht, hr]
  have hgeti : ∀ (K : LV → Option R), idxL (l.map Rule.lv) (i : Int) K = K ri.lv := fun K => by rw [idxL_nat (by simpa using hi), rule_get l i hi, hri]
  refine (rounds_scan0 (fun j => (l.map Rule.lv, ids, (i : Int), (t : Int), (r.act.outs.take j).any (fun q => isIn ri.ins q), (j : Int), ())) S r.act.outs.length k (fun _ => none) (J (l.map Rule.lv, ids, (i : Int), (t : Int), r.act.outs.any (fun q => isIn ri.ins q), ()) S) (fun rec j hj => ?_) (fun rec => ?_) (by omega)).trans (scan_none _ _ (fun _ _ _ => rfl))
  · unfold G.smithyardref6_needs.b2 G.smithyardref6_needs.q0
    dsimp only
    rw [hget, rule_outs, List.length_map, lt_nat, ifB_pos hj, any_take _ _ (bs []) j hj, wrap_succ (by omega)]
    cases (r.act.outs.take j).any fun q => isIn ri.ins q with
    | true => rfl
    | false =>
      rw [ifB_false, hgeti, rule_ins, hget, rule_outs, idxL_nat (by simpa using hj), map_str_get _ j hj, asLeaf_str, ref_has hk _ hin, Bool.false_or]
  · unfold G.smithyardref6_needs.b2
    dsimp only
    rw [hget, rule_outs, List.length_map, lt_nat, ifB_neg (Nat.lt_irrefl _), List.take_length]
theorem nd_b1 {k : Nat} (hk : Many k) (l : List Rule) (ok : RulesOk l) (hn : l.length ≤ 500) (id i : Nat) (hi : i < l.length) (f : Nat → List Nat) (S : List LV) (hS : RowsObj S id l.length f) (hf : f i = []) :
    ∃ S', (RowsObj S' id l.length (fun j => cond (j == i) (needsS l i) (f j)) ∧ Keeps S S' [id]) ∧ ∀ J : List LV × (Nat × Nat × Nat) × Int × Unit → List LV → Option R,
      rounds (G.smithyardref6_needs.b1 k J) k (l.map Rule.lv, (id, 0, l.length), (i : Int), 0, ()) S = J (l.map Rule.lv, (id, 0, l.length), (i : Int), ()) S' := by
  have hk' := hk
  unfold Many at hk'
  refine loop_all (R := R) (b := fun J => G.smithyardref6_needs.b1 k J) (x := fun t => (l.map Rule.lv, (id, 0, l.length), (i : Int), (t : Int), ())) (n := l.length)
    (Inv := fun t S1 => RowsObj S1 id l.length (fun j => cond (j == i) (needsTo l i t) (f j)) ∧ Keeps S S1 [id])
    (out := fun (J : List LV × (Nat × Nat × Nat) × Int × Unit → List LV → Option R) S' => J (l.map Rule.lv, (id, 0, l.length), (i : Int), ()) S')
    (fun t S1 ht hI => ?_) (fun J rec S1 hI => ?_) k (by omega) S ⟨?_, Keeps.refl _ _⟩
  · obtain ⟨h1, h2⟩ := hI
    cases hu : usesS l i t with
    | false =>
      refine ⟨S1, ⟨?_, h2⟩, fun J rec => ?_⟩
      · rw [needsTo_succ, hu]; exact h1
      · unfold G.smithyardref6_needs.b1 G.smithyardref6_needs.q1
        dsimp only
        rw [List.length_map, lt_nat, ifB_pos ht, nd_b2 hk l ok _ i t hi ht, hu, wrap_succ (by omega)]
        rfl
    | true =>
      have h1' : S1.getD id .any = .obj 45 ((List.range l.length).map fun j => rowR (cond (j == i) (needsTo l i t) (f j))) := h1
      have hlen : ∀ g : Nat → LV, ((List.range l.length).map g).length = l.length := fun g => by simp
      have hget : ∀ g : Nat → LV, ((List.range l.length).map g).getD i .any = g i := fun g => by simp [List.getD_eq_getElem?_getD, hi]
      have hnl := needsTo_len l i t
      refine ⟨S1.set id (.obj 45 (((List.range l.length).map fun j => rowR (cond (j == i) (needsTo l i t) (f j))).set i (.own 3 1 (ints (needsTo l i t ++ [t]))))), ⟨?_, ?_⟩, fun J rec => ?_⟩
      rotate_left 2
      · unfold G.smithyardref6_needs.b1 G.smithyardref6_needs.q1
        dsimp only
        rw [List.length_map, lt_nat, ifB_pos ht, nd_b2 hk l ok _ i t hi ht, hu]
        dsimp only
        rw [ifB_true, idxN_nat hi, at_of h1', Nat.zero_add, Nat.mul_one, hget]
        rw [beq_self_eq_true, cond_true, rowR_own, setS_of, app_one (by rw [ints_len]; omega) (by rw [ints_len]; omega), ints_snoc, idxN_nat hi, at_of (has_set h1' _)]
        unfold stO
        rw [Nat.zero_add, Nat.mul_one, show Nat.ble (i + ([LV.own 3 1 (ints (needsTo l i t ++ [t]))] : List LV).length) (((List.range l.length).map fun j => rowR (cond (j == i) (needsTo l i t) (f j))).set i (.sl 1 (ints (needsTo l i t)))).length = true from Nat.ble_eq_true_of_le (by simp; omega), ifB_true]
        dsimp only
        rw [setS_of, setFrom_one _ _ _ (by simp; omega), List.set_set, List.set_set, wrap_succ (by omega)]
      · unfold RowsObj
        rw [has_set h1', set_range]
        congr 2
        funext j
        dsimp only
        rw [needsTo_succ, hu, cond_true]
        cases j == i with
        | true => exact rowR_snoc _ _
        | false => rfl
      · exact h2.trans (Keeps.set _ _ _)
  · unfold G.smithyardref6_needs.b1
    dsimp only
    rw [List.length_map, lt_nat, ifB_neg (Nat.lt_irrefl _)]
  · unfold RowsObj at hS ⊢
    rw [hS]
    congr 2
    funext j
    dsimp only
    by_cases e : j = i
    · subst e; rw [beq_self_eq_true, hf]; rfl
    · rw [show (j == i) = false by simpa using e]; rfl
theorem rows_at (f : Nat → List Nat) (n : Nat) : RowsAt (((List.range n).map fun i => rowR (f i)).map dupL) ((List.range n).map f) := by
  refine ⟨by simp, fun i hi R K => ?_⟩
  have hi' : i < n := by simpa using hi
  have e1 : (((List.range n).map fun i => rowR (f i)).map dupL).getD i .any = dupL (rowR (f i)) := by simp [List.getD_eq_getElem?_getD, hi']
  have e2 : ((List.range n).map f).getD i [] = f i := by simp [List.getD_eq_getElem?_getD, hi']
  rw [e1, e2]
  cases f i with
  | nil => rfl
  | cons a l => exact asSl_sl 1 _ K
def refRows (l : List Rule) : List LV := ((List.range l.length).map fun i => rowR (needsS l i)).map dupL
theorem refRows_at (l : List Rule) : RowsAt (refRows l) (needsAll l) := rows_at (needsS l) l.length
theorem needs_small (l : List Rule) (hn : l.length ≤ 500) : Small (needsAll l) := by
  refine ⟨by simp [needsAll, hn], fun r hr => ?_⟩
  unfold needsAll at hr
  obtain ⟨i, hi, rfl⟩ := List.mem_map.1 hr
  have := needsTo_len l i l.length
  refine ⟨by unfold needsS; omega, fun k hk => ?_⟩
  unfold needsS needsTo at hk
  have := List.mem_range.1 (List.mem_filter.1 hk).1
  simpa [needsAll] using this
theorem needsAll_len (l : List Rule) : (needsAll l).length = l.length := by simp [needsAll]
theorem chunks_one (n : Nat) (xs : List LV) : chunks 1 n xs = xs.map dupL := rfl
theorem ref_needs {k : Nat} (hk : Many k) (l : List Rule) (ok : RulesOk l) (hn : l.length ≤ 500) (S : List LV) (K : List LV × Unit → List LV → Option R) : G.smithyardref6_needs.fn k (l.map Rule.lv, ()) S K = K (refRows l, ()) S := by
  have hk' := hk
  unfold Many at hk'
  have hS0 : RowsObj (S ++ [.obj 45 (zeros l.length [.nilsl])]) S.length l.length (fun _ => []) := by
    unfold RowsObj
    rw [get_end, zeros_nil]
    congr 1
    show _ = (List.range l.length).map fun _ => LV.nilsl
    rw [List.map_const']
    simp
  have hl := loop_all (R := LV × List LV) (b := fun J => G.smithyardref6_needs.b0 k J) (x := fun t => (l.map Rule.lv, (S.length, 0, l.length), (t : Int), ())) (n := l.length)
    (Inv := fun t S1 => RowsObj S1 S.length l.length (fun j => cond (decide (j < t)) (needsS l j) []) ∧ Keeps (S ++ [.obj 45 (zeros l.length [.nilsl])]) S1 [S.length])
    (out := fun (J : (Nat × Nat × Nat) × Unit → List LV → Option (LV × List LV)) S' => J ((S.length, 0, l.length), ()) S')
    (fun t S1 ht hI => ?_) (fun J rec S1 hI => ?_) k (by omega) _ ⟨?_, Keeps.refl _ _⟩
  · obtain ⟨S', ⟨h1, h2⟩, h3⟩ := hl
    have h1' := h1
    unfold RowsObj at h1'
    have hrow : ((List.range l.length).map fun j => rowR (cond (decide (j < l.length)) (needsS l j) [])) = (List.range l.length).map fun j => rowR (needsS l j) := by
      apply List.map_congr_left
      intro j hj
      rw [decide_eq_true (List.mem_range.1 hj)]; rfl
    rw [hrow] at h1'
    have h4 : Keeps S (S'.set S.length .any) [] := (((Keeps.app S [.obj 45 (zeros l.length [.nilsl])] [S.length]).trans h2).trans (Keeps.set _ _ _)).weak (fun m hm => by simp at hm; omega)
    obtain ⟨G', hG⟩ := h4.grown
    unfold G.smithyardref6_needs.fn
    refine popK_at (rs := G.smithyardref6_needs.rs) (r := ((refRows l, ()) : List LV × Unit)) (G := G') ?_ ?_
    · unfold G.smithyardref6_needs.fn0
      dsimp only
      rw [List.length_map, ifB_pos rfl, mkN_nat (by omega) _ (by omega)]
      unfold newObj
      dsimp only
      refine (h3 _).trans ?_
      dsimp only
      rw [at_of h1']
      have e : (Nat.beq 0 0 && Nat.beq (l.length * 1) ((List.range l.length).map fun j => rowR (needsS l j)).length && Nat.blt 0 1 && Nat.ble l.length 9223372036854775807) = true := by
        rw [List.length_map, List.length_range, Nat.mul_one, Nat.beq_refl, Nat.beq_refl, Nat.ble_eq_true_of_le (show l.length ≤ 9223372036854775807 by omega)]; rfl
      rw [e, ifB_true, setS_of, ← hG]
      rfl
    · show ((refRows l).all (noId 5)) = true
      unfold refRows
      rw [List.map_map, List.all_map, List.all_eq_true]
      intro i _
      show noId 5 (dupL (rowR (needsS l i))) = true
      cases needsS l i with
      | nil => rfl
      | cons a r => exact ints_noId 4 (a :: r)
  · obtain ⟨h1, h2⟩ := hI
    obtain ⟨S2, ⟨h3, h4⟩, h5⟩ := nd_b1 (R := LV × List LV) hk l ok hn S.length t ht _ S1 h1 (by simp)
    refine ⟨S2, ⟨?_, h2.trans h4⟩, fun J rec => ?_⟩
    · unfold RowsObj at h3 ⊢
      rw [h3]
      congr 2
      funext j
      dsimp only
      by_cases e : j = t
      · subst e; simp
      · rw [show (j == t) = false by simpa using e]
        by_cases e2 : j < t
        · simp [e2, show j < t + 1 by omega]
        · simp [e2, show ¬ j < t + 1 by omega]
    · unfold G.smithyardref6_needs.b0
      dsimp only
      rw [List.length_map, lt_nat, ifB_pos ht]
      refine (h5 _).trans ?_
      dsimp only
      rw [wrap_succ (by omega)]
  · unfold G.smithyardref6_needs.b0
    dsimp only
    rw [List.length_map, lt_nat, ifB_neg (Nat.lt_irrefl _)]
  · unfold RowsObj at hS0 ⊢
    rw [hS0]
    congr 2
end
end Go.Lm

/- The reference: CheckRules. -/
set_option maxRecDepth 100000
namespace Go.Lm
section
variable {R : Type}
theorem bools_dup (d : List Bool) : (bools d).map dupL = bools d := by
  unfold bools
  rw [List.map_map]
  rfl
theorem bools_noId (n : Nat) (l : List Bool) : (bools l).all (noId n) = true := by
  unfold bools
  rw [List.all_map, List.all_eq_true]
  intro x _
  cases n <;> rfl
def trueTo (n t : Nat) : List Bool := (List.range n).map fun j => decide (j < t)
theorem trueTo_set (n t : Nat) : (trueTo n t).set t true = trueTo n (t + 1) := by
  unfold trueTo
  apply List.ext_getElem?
  intro j
  rw [List.getElem?_set, List.getElem?_map, List.getElem?_map]
  rcases Nat.lt_or_ge j n with h | h
  · rw [List.getElem?_range h]
    by_cases e : t = j
    · subst e; simp [h]
    · simp [e]; omega
  · have : (List.range n)[j]? = none := by simp [h]
    rw [this]
    by_cases e : t = j
    · subst e; simp; omega
    · simp [e]
theorem trueTo_all (n : Nat) : trueTo n n = List.replicate n true := by
  unfold trueTo
  apply List.ext_getElem (by simp)
  intro i h1 h2
  simp at h1 ⊢
  exact h1
theorem trueTo_zero (n : Nat) : trueTo n 0 = List.replicate n false := by
  unfold trueTo
  apply List.ext_getElem (by simp)
  intro i h1 h2
  simp
theorem trueTo_len (n t : Nat) : (trueTo n t).length = n := by simp [trueTo]
theorem ref_all {k : Nat} (hk : Many k) (n : Nat) (hn : n ≤ 500) (S : List LV) (K : List LV × Unit → List LV → Option R) : G.smithyardref6_all.fn k ((n : Int), ()) S K = K (bools (List.replicate n true), ()) S := by
  have hk' := hk
  unfold Many at hk'
  have hl := loop_all (R := LV × List LV) (b := fun J => G.smithyardref6_all.b0 k J) (x := fun t => ((n : Int), (S.length, 0, n), (t : Int), ())) (n := n)
    (Inv := fun t S1 => BoolsAt S1 S.length (trueTo n t) ∧ Keeps (S ++ [.obj 4 (zeros n [.bool false])]) S1 [S.length])
    (out := fun (J : (Nat × Nat × Nat) × Unit → List LV → Option (LV × List LV)) S' => J ((S.length, 0, n), ()) S')
    (fun t S1 ht hI => ?_) (fun J rec S1 hI => ?_) k (by omega) _ ⟨?_, Keeps.refl _ _⟩
  · obtain ⟨S', ⟨h1, h2⟩, h3⟩ := hl
    rw [trueTo_all] at h1
    have h4 : Keeps S (S'.set S.length .any) [] := (((Keeps.app S [.obj 4 (zeros n [.bool false])] [S.length]).trans h2).trans (Keeps.set _ _ _)).weak (fun m hm => by simp at hm; omega)
    obtain ⟨G', hG⟩ := h4.grown
    unfold G.smithyardref6_all.fn
    refine popK_at (rs := G.smithyardref6_all.rs) (r := ((bools (List.replicate n true), ()) : List LV × Unit)) (G := G') ?_ (bools_noId 5 _)
    unfold G.smithyardref6_all.fn0
    dsimp only
    rw [ifB_pos rfl, mkN_nat (by omega) _ (by omega)]
    unfold newObj
    dsimp only
    refine (h3 _).trans ?_
    dsimp only
    rw [at_of h1]
    have e : (Nat.beq 0 0 && Nat.beq (n * 1) (bools (List.replicate n true)).length && Nat.blt 0 1 && Nat.ble n 9223372036854775807) = true := by
      rw [bools_len, List.length_replicate, Nat.mul_one, Nat.beq_refl, Nat.beq_refl, Nat.ble_eq_true_of_le (show n ≤ 9223372036854775807 by omega)]; rfl
    rw [e, ifB_true, setS_of, ← hG, chunks_one, bools_dup]
  · obtain ⟨h1, h2⟩ := hI
    refine ⟨_, ⟨h1.set (trueTo n (t + 1)), h2.trans (Keeps.set _ _ _)⟩, fun J rec => ?_⟩
    unfold G.smithyardref6_all.b0
    dsimp only
    rw [lt_nat, ifB_pos ht, idxN_nat ht, h1.st (by rw [trueTo_len]; exact ht), trueTo_set, wrap_succ (by omega)]
  · unfold G.smithyardref6_all.b0
    dsimp only
    rw [lt_nat, ifB_neg (Nat.lt_irrefl _)]
  · rw [trueTo_zero]
    unfold BoolsAt
    rw [get_end, zeros_bool]
def loopS (l : List Rule) : Int := cond (orderedS (needsAll l) (List.replicate l.length true)).2 0 17
def checkRulesS (l : List Rule) : Int := cond (decide (l.length > 500)) 2 ((firstE (nameE l) l.length).getD ((allOutE l).getD (loopS l)))
theorem outE_pos (l : List Rule) (i : Nat) (p : ByteArray) (e : Int) (h : outE l i p = some e) : e ≠ 0 := by
  unfold outE at h
  cases h1 : outsIn (l.take i) p <;> rw [h1] at h
  · cases h2 : refClash l i p <;> rw [h2] at h
    · cases h
    · cases h; decide
  · cases h; decide
theorem str_mem (l : List ByteArray) (j : Nat) (h : j < l.length) : l.getD j (bs []) ∈ l := by
  rw [List.getD_eq_getElem?_getD, List.getElem?_eq_getElem h]; exact List.getElem_mem h
theorem cr_b2 {k : Nat} (hk : Many k) (l : List Rule) (ok : RulesOk l) (hn : l.length ≤ 500) (i : Nat) (hi : i < l.length) (S : List LV) (J : List LV × Int × Unit → List LV → Option R) (Jr : Int × Unit → List LV → Option R) :
    rounds (G.smithyardref6_CheckRules.b2 k J Jr) k (l.map Rule.lv, (i : Int), 0, ()) S = ((ruleOutE l i).map fun e => Jr (e, ()) S).getD (J (l.map Rule.lv, (i : Int), ()) S) := by
  have hk' := hk
  unfold Many at hk'
  have hm := rule_mem l i hi
  have hon := ok.on _ hm
  unfold ruleOutE
  rw [← scan_scanE]
  refine rounds_scan0 (fun j => (l.map Rule.lv, (i : Int), (j : Int), ())) S (l.getD i .zero).act.outs.length k _ _ (fun rec j hj => ?_) (fun rec => ?_) (by omega)
  · unfold G.smithyardref6_CheckRules.b2
    dsimp only
    have hp : (outAt l i j).size ≤ 140737488355328 := (ok.r _ hm).act.outs _ (str_mem _ j hj)
    rw [idxL_nat (by simpa using hi), rule_get l i hi, rule_outs, List.length_map, lt_nat, ifB_pos hj, idxL_nat (by simpa using hi), rule_get l i hi, rule_outs, idxL_nat (by simpa using hj), map_str_get _ j hj, asLeaf_str]
    rw [show (l.getD i .zero).act.outs.getD j (bs []) = outAt l i j from rfl, ref_checkOutput hk l ok i hi _ hp, wrap_succ (by omega)]
    cases h : outE l i (outAt l i j) with
    | none => rfl
    | some e =>
      have := outE_pos l i _ e h
      simp only [Option.getD_some, Option.map_some]
      rw [show (e != 0) = true by simpa using this, ifB_true]
  · unfold G.smithyardref6_CheckRules.b2
    dsimp only
    rw [idxL_nat (by simpa using hi), rule_get l i hi, rule_outs, List.length_map, lt_nat, ifB_neg (Nat.lt_irrefl _)]
theorem cr_b1 {k : Nat} (hk : Many k) (l : List Rule) (ok : RulesOk l) (hn : l.length ≤ 500) (S : List LV) (J : List LV × Unit → List LV → Option R) (Jr : Int × Unit → List LV → Option R) :
    rounds (G.smithyardref6_CheckRules.b1 k J Jr) k (l.map Rule.lv, 0, ()) S = ((allOutE l).map fun e => Jr (e, ()) S).getD (J (l.map Rule.lv, ()) S) := by
  have hk' := hk
  unfold Many at hk'
  unfold allOutE
  rw [← scan_scanE]
  refine rounds_scan0 (fun i => (l.map Rule.lv, (i : Int), ())) S l.length k _ _ (fun rec i hi => ?_) (fun rec => ?_) (by omega)
  · unfold G.smithyardref6_CheckRules.b1
    dsimp only
    rw [List.length_map, lt_nat, ifB_pos hi]
    refine (cr_b2 hk l ok hn i hi S _ _).trans ?_
    rw [wrap_succ (by omega)]
    cases ruleOutE l i <;> rfl
  · unfold G.smithyardref6_CheckRules.b1
    dsimp only
    rw [List.length_map, lt_nat, ifB_neg (Nat.lt_irrefl _)]
theorem name_prev (l : List Rule) (i : Nat) (hi : i < l.length) (hl : l.length ≤ 500) (s : ByteArray) (a : Option R) (J : Option R) :
    ifB (decide ((i : Int) > 0)) (idxL (l.map Rule.lv) (IntKind.wrap .i64 ((i : Int) - 1)) fun v => asStr (leaf v 0) fun t => ifB (strLt s t || strEq s t) a J) J =
      cond (decide (0 < i) && (strLt s (ruleName l (i - 1)) || strEq s (ruleName l (i - 1)))) a J := by
  by_cases h0 : 0 < i
  · rw [ifB_pos (show (i : Int) > 0 by omega), decide_eq_true h0, wrap_pred h0 (by omega), idxL_nat (by simp; omega), rule_get l _ (by omega), rule_name, Bool.true_and]
    unfold ruleName
    cases (strLt s (l.getD (i - 1) .zero).name || strEq s (l.getD (i - 1) .zero).name) <;> rfl
  · rw [ifB_neg (show ¬ (i : Int) > 0 by omega), decide_eq_false h0]; rfl
theorem cr_b0 {k : Nat} (hk : Many k) (l : List Rule) (ok : RulesOk l) (hn : l.length ≤ 500) (S : List LV) (J : List LV × Unit → List LV → Option R) (Jr : Int × Unit → List LV → Option R) :
    rounds (G.smithyardref6_CheckRules.b0 k J Jr) k (l.map Rule.lv, 0, ()) S = ((firstE (nameE l) l.length).map fun e => Jr (e, ()) S).getD (J (l.map Rule.lv, ()) S) := by
  have hk' := hk
  unfold Many at hk'
  unfold firstE
  rw [← scan_firstE]
  refine rounds_scan0 (fun i => (l.map Rule.lv, (i : Int), ())) S l.length k _ _ (fun rec i hi => ?_) (fun rec => ?_) (by omega)
  · have hget : ∀ (K : LV → Option R), idxL (l.map Rule.lv) (i : Int) K = K (l.getD i .zero).lv := fun K => by rw [idxL_nat (by simpa using hi), rule_get l i hi]
    unfold G.smithyardref6_CheckRules.b0 G.smithyardref6_CheckRules.q0
    dsimp only
    rw [List.length_map, lt_nat, ifB_pos hi, hget, Rule.mat, rule_cells]
    refine (ref_checkRule hk _ (ok.r _ (rule_mem l i hi)) S _).trans ?_
    dsimp only
    simp only [hget, rule_name, name_prev l i hi hn, wrap_succ (show i < 9223372036854775807 by omega)]
    unfold nameE
    rw [ne0, show (l.getD i .zero).name = ruleName l i from rfl]
    cases ruleS (l.getD i .zero) == 0 with
    | false => rfl
    | true =>
      generalize (decide (0 < i) && (strLt (ruleName l i) (ruleName l (i - 1)) || strEq (ruleName l i) (ruleName l (i - 1)))) = b
      cases b <;> rfl
  · unfold G.smithyardref6_CheckRules.b0
    dsimp only
    rw [List.length_map, lt_nat, ifB_neg (Nat.lt_irrefl _)]
theorem ref_CheckRules {k : Nat} (hk : Many k) (l : List Rule) (ok : RulesOk l) (S : List LV) (K : Int × Unit → List LV → Option R) : G.smithyardref6_CheckRules.fn k (l.map Rule.lv, ()) S K = K (checkRulesS l, ()) S := by
  unfold G.smithyardref6_CheckRules.fn checkRulesS
  dsimp only
  rw [List.length_map, show decide ((l.length : Int) > 500) = decide (l.length > 500) from gt_nat l.length 500]
  by_cases h : l.length > 500
  · rw [decide_eq_true h]; rfl
  · have hn : l.length ≤ 500 := by omega
    rw [decide_eq_false h, ifB_false]
    refine (cr_b0 hk l ok hn S _ _).trans ?_
    cases firstE (nameE l) l.length with
    | some e => rfl
    | none =>
      simp only [Option.map_none, Option.getD_none, cond_false]
      refine (cr_b1 hk l ok hn S _ _).trans ?_
      cases allOutE l with
      | some e => rfl
      | none =>
        simp only [Option.map_none, Option.getD_none]
        rw [ref_needs hk l ok hn]
        dsimp only
        rw [List.length_map, ref_all hk l.length hn]
        dsimp only
        rw [ref_ordered hk (refRows l) (needsAll l) (refRows_at l) (needs_small l hn) _ (by simp [needsAll])]
        dsimp only
        unfold loopS
        cases (orderedS (needsAll l) (List.replicate l.length true)).2 <;> rfl
end
end Go.Lm
