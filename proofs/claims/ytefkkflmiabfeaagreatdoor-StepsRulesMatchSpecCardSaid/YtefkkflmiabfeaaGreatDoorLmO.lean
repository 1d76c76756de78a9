/- Commands of an action: words, forms. -/
import Derived.Test.YtefkkflmiabfeaaGreatDoorLmM
import Derived.Test.YtefkkflmiabfeaaGreatDoorLmX2
import Derived.Laws.RangeString
import Derived.Laws.RangeAny
set_option linter.unusedVariables false
set_option linter.unusedSimpArgs false
set_option maxRecDepth 100000
namespace Go.Lm
section
variable {R : Type}
def allB (lo hi : Int) (s : ByteArray) : Bool := scan (fun i => cond (decide (lo ≤ bt s i) && decide (bt s i ≤ hi)) none (some false)) true s.size 0
theorem ref_allB {k : Nat} (hk : Many k) (s : ByteArray) (hs : s.size ≤ 140737488355328) (lo hi : Int) (S : List LV) (K : Bool × Unit → List LV → Option R) : G.smithyardref5_bytesIn.fn k (s, lo, hi, ()) S K = K (allB lo hi s, ()) S := by
  rw [ref_bytesIn hk s hs]
  unfold allB
  refine congrArg (fun b => K (b, ()) S) (scan_congr _ _ (fun j _ _ => ?_) rfl)
  cases decide (lo ≤ bt s (j : Int)) && decide (bt s (j : Int) ≤ hi) <;> rfl
theorem scan_cond {β : Type} (p : Nat → Bool) (a b : β) : ∀ d i, scan (fun j => cond (p j) none (some a)) b d i = cond (scan (fun j => cond (p j) none (some false)) true d i) b a
  | 0, _ => rfl
  | d + 1, i => by
    have ih := scan_cond p a b d (i + 1)
    simp only [scan]
    cases p i with
    | true => exact ih
    | false => rfl
/-- A first one in a list. -/
theorem scan_first {α β : Type} (z : α) (p : α → Bool) (a b : β) : ∀ (l m : List α), scan (fun i => cond (p ((m ++ l).getD i z)) (some a) none) b l.length m.length = cond (l.any p) a b
  | [], m => rfl
  | x :: l, m => by
    have e : (m ++ x :: l).getD m.length z = x := by simp [List.getD_eq_getElem?_getD]
    have ih := scan_first z p a b l (m ++ [x])
    simp only [List.length_append, List.length_cons, List.length_nil, Nat.zero_add, List.append_assoc, List.cons_append, List.nil_append] at ih
    simp only [List.length_cons, scan, List.any_cons, e]
    cases p x with
    | true => rfl
    | false => exact ih
theorem scan_first0 {α β : Type} (z : α) (p : α → Bool) (a b : β) (l : List α) : scan (fun i => cond (p (l.getD i z)) (some a) none) b l.length 0 = cond (l.any p) a b := scan_first z p a b l []
def isWordS (s : ByteArray) : Bool := allB 33 126 s && (decide (1 ≤ s.size) && decide (s.size ≤ 300))
theorem prog_isWord {k : Nat} (hk : Many k) (s : ByteArray) (hs : s.size ≤ 140737488355328) (S : List LV) (K : Bool × Unit → List LV → Option R) : G.action_isWord.fn k (s, ()) S K = K (isWordS s, ()) S := by
  unfold Many at hk
  unfold G.action_isWord.fn isWordS allB
  dsimp only
  refine Eq.trans (rounds_scan0 (fun i => (s, (s.size : Int), (i : Int), ())) S s.size k (fun i => cond (decide (33 ≤ bt s i) && decide (bt s i ≤ 126)) none (some (K (false, ()) S))) (K (decide (1 ≤ s.size) && decide (s.size ≤ 300), ()) S) (fun rec i hi => ?_) (fun rec => ?_) (by omega)) ?_
  · unfold G.action_isWord.b0
    dsimp only
    rw [lt_nat, ifB_pos hi, idxStr_nat hi, idxStr_nat hi, wrap_succ (by omega)]
    by_cases h1 : bt s (i : Int) < 33
    · have h2 : ¬ (33 ≤ bt s (i : Int)) := by omega
      simp [h1, h2]
    · have h2 : 33 ≤ bt s (i : Int) := by omega
      by_cases h3 : bt s (i : Int) > 126
      · have h4 : ¬ (bt s (i : Int) ≤ 126) := by omega
        simp [h1, h2, h3, h4]
      · have h4 : bt s (i : Int) ≤ 126 := by omega
        simp [h1, h2, h3, h4]
  · unfold G.action_isWord.b0
    dsimp only
    rw [lt_nat, ifB_neg (Nat.lt_irrefl _)]
    by_cases h1 : 1 ≤ s.size
    · rw [ifB_pos (show (s.size : Int) ≥ 1 by omega), decide_eq_true h1, Bool.true_and]
      by_cases h2 : s.size ≤ 300
      · rw [decide_eq_true h2, decide_eq_true (show (s.size : Int) ≤ 300 by omega)]
      · rw [decide_eq_false h2, decide_eq_false (show ¬ (s.size : Int) ≤ 300 by omega)]
    · rw [ifB_neg (show ¬ (s.size : Int) ≥ 1 by omega), decide_eq_false h1, Bool.false_and]
  · rw [scan_cond]
    cases scan (fun j => cond (decide (33 ≤ bt s (j : Int)) && decide (bt s (j : Int) ≤ 126)) none (some false)) true s.size 0 <;> rfl
def badWords (c : List ByteArray) : Bool := c.any fun w => !(isWordS w)
theorem get_size {l : List ByteArray} {n : Nat} (h : ∀ w ∈ l, w.size ≤ n) (i : Nat) (hi : i < l.length) : (l.getD i (bs [])).size ≤ n := h _ (by rw [List.getD_eq_getElem?_getD, List.getElem?_eq_getElem hi]; exact List.getElem_mem hi)
theorem prog_words {k : Nat} (hk : Many k) (c : List ByteArray) (hc : c.length ≤ 140737488355328) (hs : ∀ w ∈ c, w.size ≤ 140737488355328) (S : List LV) (K : Bool × Unit → List LV → Option R) :
    G.slices_ContainsFunc_s_string_string_at_action_checkCommand_1.fn k (c.map .str, (), ()) S K = K (badWords c, ()) S := by
  have hk' := hk
  unfold Many at hk'
  unfold G.slices_ContainsFunc_s_string_string_at_action_checkCommand_1.fn G.slices_IndexFunc_s_string_string_at_action_checkCommand_1.fn
  dsimp only
  rw [List.length_map]
  have h := rounds_scan0 (b := G.slices_IndexFunc_s_string_string_at_action_checkCommand_1.b0 k (fun (_ : Unit) S => K (decide ((-1 : Int) ≥ 0), ()) S) (fun (o5 : Int × Unit) S => K (decide (o5.1 ≥ 0), ()) S)) (fun i => (c.map LV.str, (), (c.length : Int), (i : Int), ())) S c.length k (fun i => cond (!(isWordS (c.getD i (bs [])))) (some (K (true, ()) S)) none) (K (false, ()) S) (fun rec i hi => ?_) (fun rec => ?_) (by omega)
  · refine Eq.trans h ?_
    rw [scan_first0 (bs []) (fun w => !(isWordS w))]
    unfold badWords
    cases c.any fun w => !(isWordS w) <;> rfl
  · unfold G.slices_IndexFunc_s_string_string_at_action_checkCommand_1.b0 G.action_checkCommand_1.fn
    dsimp only
    rw [lt_nat, ifB_pos hi, idxL_nat (by simpa using hi), map_str_get c i hi]
    simp only [asLeaf_str]
    rw [prog_isWord hk _ (get_size hs i hi), wrap_succ (by omega)]
    dsimp only
    have e : decide ((i : Int) ≥ 0) = true := decide_eq_true (by omega)
    cases isWordS (c.getD i (bs [])) with
    | true => rfl
    | false =>
      show K (decide ((i : Int) ≥ 0), ()) S = K (true, ()) S
      rw [e]
  · unfold G.slices_IndexFunc_s_string_string_at_action_checkCommand_1.b0
    dsimp only
    rw [lt_nat, ifB_neg (Nat.lt_irrefl _)]
    rfl
theorem ref_words {k : Nat} (hk : Many k) (c : List ByteArray) (hc : c.length ≤ 140737488355328) (hs : ∀ w ∈ c, w.size ≤ 140737488355328) (S : List LV) (J0 : List LV × Unit → List LV → Option R) (Jret : Int × Unit → List LV → Option R) :
    rounds (G.smithyardref5_checkCommand.b0 k J0 Jret) k (c.map .str, (0 : Int), ()) S = cond (badWords c) (Jret (3, ()) S) (J0 (c.map .str, ()) S) := by
  have hk' := hk
  unfold Many at hk'
  have h := rounds_scan0 (b := G.smithyardref5_checkCommand.b0 k J0 Jret) (fun i => (c.map LV.str, (i : Int), ())) S c.length k (fun i => cond (!(isWordS (c.getD i (bs [])))) (some (Jret (3, ()) S)) none) (J0 (c.map .str, ()) S) (fun rec i hi => ?_) (fun rec => ?_) (by omega)
  · refine Eq.trans h ?_
    rw [scan_first0 (bs []) (fun w => !(isWordS w))]
    rfl
  · unfold G.smithyardref5_checkCommand.b0 G.smithyardref5_within.fn
    dsimp only
    rw [List.length_map, lt_nat, ifB_pos hi, idxL_nat (by simpa using hi), idxL_nat (by simpa using hi), map_str_get c i hi, wrap_succ (by omega)]
    have hz := get_size hs i hi
    generalize c.getD i (bs []) = w at hz
    simp only [asLeaf_str, ref_allB hk w hz]
    unfold isWordS
    by_cases h1 : 1 ≤ w.size
    · rw [ifB_pos (show (w.size : Int) ≥ 1 by omega), decide_eq_true h1]
      by_cases h2 : w.size ≤ 300
      · rw [decide_eq_true h2, decide_eq_true (show (w.size : Int) ≤ 300 by omega)]
        cases allB 33 126 w <;> rfl
      · rw [decide_eq_false h2, decide_eq_false (show ¬ (w.size : Int) ≤ 300 by omega)]
        cases allB 33 126 w <;> rfl
    · rw [ifB_neg (show ¬ (w.size : Int) ≥ 1 by omega), decide_eq_false h1]
      cases allB 33 126 w <;> rfl
  · unfold G.smithyardref5_checkCommand.b0
    dsimp only
    rw [List.length_map, lt_nat, ifB_neg (Nat.lt_irrefl _)]
/-! ### forms -/
def formS (w : ByteArray) : ByteArray := cond (strEq w (bs [106, 111, 105, 110])) (bs [112, 112, 43]) (cond (strEq w (bs [115, 111, 114, 116])) (bs [112, 112]) (cond (strEq w (bs [99, 111, 117, 110, 116])) (bs [112, 112]) (cond (strEq w (bs [101, 120, 112, 97, 110, 100])) (bs [112, 112]) (cond (strEq w (bs [109, 97, 107, 101])) (bs [112, 112]) (cond (strEq w (bs [100, 105, 103, 101, 115, 116])) (bs [112, 112]) (cond (strEq w (bs [108, 105, 115, 116])) (bs [112, 112]) (cond (strEq w (bs [102, 105, 114, 115, 116])) (bs [112, 110, 112]) (cond (strEq w (bs [99, 104, 97, 110, 103, 101])) (bs [112, 119, 119, 112]) (cond (strEq w (bs [112, 105, 99, 107])) (bs [112, 112, 112, 43]) (cond (strEq w (bs [118, 97, 114])) (bs [112, 119]) (cond (strEq w (bs [116, 101, 108, 108])) (bs [119, 43]) (cond (strEq w (bs [110, 101, 101, 100])) (bs [112]) (cond (strEq w (bs [115, 97, 109, 101])) (bs [112, 112]) (cond (strEq w (bs [102, 97, 105, 108])) (bs [110]) (bs [])))))))))))))))
theorem prog_formOf (k : Nat) (w : ByteArray) (S : List LV) (K : ByteArray × Unit → List LV → Option R) : G.action_formOf.fn k (w, ()) S K = K (formS w, ()) S := by
  unfold G.action_formOf.fn G.action_formOf.q0 G.action_formOf.q1 G.action_formOf.q2 G.action_formOf.q3 G.action_formOf.q4 G.action_formOf.q5 G.action_formOf.q6 G.action_formOf.q7 formS
  dsimp only
  generalize strEq w (bs [106, 111, 105, 110]) = b0
  generalize strEq w (bs [115, 111, 114, 116]) = b1
  generalize strEq w (bs [99, 111, 117, 110, 116]) = b2
  generalize strEq w (bs [101, 120, 112, 97, 110, 100]) = b3
  generalize strEq w (bs [109, 97, 107, 101]) = b4
  generalize strEq w (bs [100, 105, 103, 101, 115, 116]) = b5
  generalize strEq w (bs [108, 105, 115, 116]) = b6
  generalize strEq w (bs [102, 105, 114, 115, 116]) = b7
  generalize strEq w (bs [99, 104, 97, 110, 103, 101]) = b8
  generalize strEq w (bs [112, 105, 99, 107]) = b9
  generalize strEq w (bs [118, 97, 114]) = b10
  generalize strEq w (bs [116, 101, 108, 108]) = b11
  generalize strEq w (bs [110, 101, 101, 100]) = b12
  generalize strEq w (bs [115, 97, 109, 101]) = b13
  generalize strEq w (bs [102, 97, 105, 108]) = b14
  cases b0 with
  | true => rfl
  | false =>
    cases b1 with
    | true => rfl
    | false =>
      cases b2 with
      | true => rfl
      | false =>
        cases b3 with
        | true => rfl
        | false =>
          cases b4 with
          | true => rfl
          | false =>
            cases b5 with
            | true => rfl
            | false =>
              cases b6 with
              | true => rfl
              | false =>
                cases b7 with
                | true => rfl
                | false =>
                  cases b8 with
                  | true => rfl
                  | false =>
                    cases b9 with
                    | true => rfl
                    | false =>
                      cases b10 with
                      | true => rfl
                      | false =>
                        cases b11 with
                        | true => rfl
                        | false =>
                          cases b12 with
                          | true => rfl
                          | false =>
                            cases b13 with
                            | true => rfl
                            | false =>
                              cases b14 with
                              | true => rfl
                              | false =>
                                rfl
theorem fm0 : strEq (bs [112, 112, 43]) (bs []) = false := by decide +kernel
theorem fm1 : strEq (bs [112, 112]) (bs []) = false := by decide +kernel
theorem fm2 : strEq (bs [112, 110, 112]) (bs []) = false := by decide +kernel
theorem fm3 : strEq (bs [112, 119, 119, 112]) (bs []) = false := by decide +kernel
theorem fm4 : strEq (bs [112, 112, 112, 43]) (bs []) = false := by decide +kernel
theorem fm5 : strEq (bs [112, 119]) (bs []) = false := by decide +kernel
theorem fm6 : strEq (bs [119, 43]) (bs []) = false := by decide +kernel
theorem fm7 : strEq (bs [112]) (bs []) = false := by decide +kernel
theorem fm8 : strEq (bs [110]) (bs []) = false := by decide +kernel
theorem fm9 : strEq (bs []) (bs []) = true := by decide +kernel
theorem ref_form (k : Nat) (w : ByteArray) (S : List LV) (K : ByteArray × Bool × Unit → List LV → Option R) : G.smithyardref5_form.fn k (w, ()) S K = K (formS w, !(strEq (formS w) (bs [])), ()) S := by
  unfold G.smithyardref5_form.fn G.smithyardref5_form.q0 G.smithyardref5_form.q1 G.smithyardref5_form.q2 G.smithyardref5_form.q3 G.smithyardref5_form.q4 G.smithyardref5_form.q5 G.smithyardref5_form.q6 formS
  dsimp only
  cases hs : strEq w (bs [115, 97, 109, 101]) with
  | true =>
    rw [strEq_iff] at hs
    subst hs
    simp only [show strEq (bs [115, 97, 109, 101]) (bs [106, 111, 105, 110]) = false from by decide +kernel, show strEq (bs [115, 97, 109, 101]) (bs [115, 111, 114, 116]) = false from by decide +kernel, show strEq (bs [115, 97, 109, 101]) (bs [99, 111, 117, 110, 116]) = false from by decide +kernel, show strEq (bs [115, 97, 109, 101]) (bs [101, 120, 112, 97, 110, 100]) = false from by decide +kernel, show strEq (bs [115, 97, 109, 101]) (bs [109, 97, 107, 101]) = false from by decide +kernel, show strEq (bs [115, 97, 109, 101]) (bs [100, 105, 103, 101, 115, 116]) = false from by decide +kernel, show strEq (bs [115, 97, 109, 101]) (bs [108, 105, 115, 116]) = false from by decide +kernel, show strEq (bs [115, 97, 109, 101]) (bs [102, 105, 114, 115, 116]) = false from by decide +kernel, show strEq (bs [115, 97, 109, 101]) (bs [99, 104, 97, 110, 103, 101]) = false from by decide +kernel, show strEq (bs [115, 97, 109, 101]) (bs [112, 105, 99, 107]) = false from by decide +kernel, show strEq (bs [115, 97, 109, 101]) (bs [118, 97, 114]) = false from by decide +kernel, show strEq (bs [115, 97, 109, 101]) (bs [116, 101, 108, 108]) = false from by decide +kernel, show strEq (bs [115, 97, 109, 101]) (bs [110, 101, 101, 100]) = false from by decide +kernel, show strEq (bs [115, 97, 109, 101]) (bs [102, 97, 105, 108]) = false from by decide +kernel, ifB_true, ifB_false, cond_true, cond_false, fm1, Bool.not_false]
  | false =>
    generalize strEq w (bs [106, 111, 105, 110]) = b0
    generalize strEq w (bs [115, 111, 114, 116]) = b1
    generalize strEq w (bs [99, 111, 117, 110, 116]) = b2
    generalize strEq w (bs [101, 120, 112, 97, 110, 100]) = b3
    generalize strEq w (bs [109, 97, 107, 101]) = b4
    generalize strEq w (bs [100, 105, 103, 101, 115, 116]) = b5
    generalize strEq w (bs [108, 105, 115, 116]) = b6
    generalize strEq w (bs [102, 105, 114, 115, 116]) = b7
    generalize strEq w (bs [99, 104, 97, 110, 103, 101]) = b8
    generalize strEq w (bs [112, 105, 99, 107]) = b9
    generalize strEq w (bs [118, 97, 114]) = b10
    generalize strEq w (bs [116, 101, 108, 108]) = b11
    generalize strEq w (bs [110, 101, 101, 100]) = b12
    generalize strEq w (bs [102, 97, 105, 108]) = b14
    cases b0 with
    | true => simp only [ifB_true, ifB_false, cond_true, cond_false, fm0, Bool.not_false]
    | false =>
      cases b1 with
      | true => simp only [ifB_true, ifB_false, cond_true, cond_false, fm1, Bool.not_false]
      | false =>
        cases b2 with
        | true => simp only [ifB_true, ifB_false, cond_true, cond_false, fm1, Bool.not_false]
        | false =>
          cases b3 with
          | true => simp only [ifB_true, ifB_false, cond_true, cond_false, fm1, Bool.not_false]
          | false =>
            cases b4 with
            | true => simp only [ifB_true, ifB_false, cond_true, cond_false, fm1, Bool.not_false]
            | false =>
              cases b5 with
              | true => simp only [ifB_true, ifB_false, cond_true, cond_false, fm1, Bool.not_false]
              | false =>
                cases b6 with
                | true => simp only [ifB_true, ifB_false, cond_true, cond_false, fm1, Bool.not_false]
                | false =>
                  cases b7 with
                  | true => simp only [ifB_true, ifB_false, cond_true, cond_false, fm2, Bool.not_false]
                  | false =>
                    cases b8 with
                    | true => simp only [ifB_true, ifB_false, cond_true, cond_false, fm3, Bool.not_false]
                    | false =>
                      cases b9 with
                      | true => simp only [ifB_true, ifB_false, cond_true, cond_false, fm4, Bool.not_false]
                      | false =>
                        cases b10 with
                        | true => simp only [ifB_true, ifB_false, cond_true, cond_false, fm5, Bool.not_false]
                        | false =>
                          cases b11 with
                          | true => simp only [ifB_true, ifB_false, cond_true, cond_false, fm6, Bool.not_false]
                          | false =>
                            cases b12 with
                            | true => simp only [ifB_true, ifB_false, cond_true, cond_false, fm7, Bool.not_false]
                            | false =>
                              cases b14 with
                              | true => simp only [ifB_true, ifB_false, cond_true, cond_false, fm8, Bool.not_false]
                              | false =>
                                simp only [ifB_true, ifB_false, cond_true, cond_false, fm9, Bool.not_true]
end
end Go.Lm

/- Commands of an action: their form, and what is wrong with one. -/
set_option maxRecDepth 100000
namespace Go.Lm
section
variable {R : Type}
def hasPlus (f : ByteArray) : Bool := decide (1 ≤ f.size) && strEq (f.extract (f.size - 1) f.size) (bs [43])
def cutPlus (f : ByteArray) : ByteArray × Bool := cond (hasPlus f) (f.extract 0 (f.size - 1), true) (f, false)
theorem wrap_sub1 {n : Nat} (h : 1 ≤ n) (h2 : n ≤ 140737488355328) : IntKind.wrap .i64 ((n : Int) - 1) = ((n - 1 : Nat) : Int) := wrap_pred (by omega) (by omega)
theorem CutSuffix_at (k : Nat) (f : ByteArray) (hf : f.size ≤ 140737488355328) (S : List LV) (K : ByteArray × Bool × Unit → List LV → Option R) : G.strings_CutSuffix.fn k (f, bs [43], ()) S K = K ((cutPlus f).1, (cutPlus f).2, ()) S := by
  unfold G.strings_CutSuffix.fn G.internal_stringslite_CutSuffix.fn G.internal_stringslite_HasSuffix.fn cutPlus hasPlus
  have e1 : ((bs [43]).size : Int) = 1 := rfl
  dsimp only
  rw [e1]
  by_cases h1 : 1 ≤ f.size
  · rw [ifB_pos (show (f.size : Int) ≥ 1 by omega), decide_eq_true h1, wrap_sub1 h1 hf]
    have e2 : ∀ K : ByteArray → Option R, slStr f ((f.size - 1 : Nat) : Int) (f.size : Int) K = K (f.extract (f.size - 1) f.size) := fun K => by
      unfold slStr
      rw [ifB_pos ⟨by omega, by omega, by omega⟩]; rfl
    have e3 : ∀ K : ByteArray → Option R, slStr f (0 : Int) ((f.size - 1 : Nat) : Int) K = K (f.extract 0 (f.size - 1)) := fun K => slStr_nat (by omega) K
    rw [e2, e3, Bool.true_and]
    cases strEq (f.extract (f.size - 1) f.size) (bs [43]) <;> rfl
  · rw [ifB_neg (show ¬ (f.size : Int) ≥ 1 by omega), decide_eq_false h1]
    rfl
theorem formS_cases {P : ByteArray → Prop} (w : ByteArray) (h0 : P (bs [])) (h1 : P (bs [112, 112, 43])) (h2 : P (bs [112, 112])) (h3 : P (bs [112, 110, 112])) (h4 : P (bs [112, 119, 119, 112])) (h5 : P (bs [112, 112, 112, 43])) (h6 : P (bs [112, 119])) (h7 : P (bs [119, 43])) (h8 : P (bs [112])) (h9 : P (bs [110])) : P (formS w) := by
  unfold formS
  cases strEq w (bs [106, 111, 105, 110]) with
  | true => exact h1
  | false =>
  rw [cond_false]
  cases strEq w (bs [115, 111, 114, 116]) with
  | true => exact h2
  | false =>
  rw [cond_false]
  cases strEq w (bs [99, 111, 117, 110, 116]) with
  | true => exact h2
  | false =>
  rw [cond_false]
  cases strEq w (bs [101, 120, 112, 97, 110, 100]) with
  | true => exact h2
  | false =>
  rw [cond_false]
  cases strEq w (bs [109, 97, 107, 101]) with
  | true => exact h2
  | false =>
  rw [cond_false]
  cases strEq w (bs [100, 105, 103, 101, 115, 116]) with
  | true => exact h2
  | false =>
  rw [cond_false]
  cases strEq w (bs [108, 105, 115, 116]) with
  | true => exact h2
  | false =>
  rw [cond_false]
  cases strEq w (bs [102, 105, 114, 115, 116]) with
  | true => exact h3
  | false =>
  rw [cond_false]
  cases strEq w (bs [99, 104, 97, 110, 103, 101]) with
  | true => exact h4
  | false =>
  rw [cond_false]
  cases strEq w (bs [112, 105, 99, 107]) with
  | true => exact h5
  | false =>
  rw [cond_false]
  cases strEq w (bs [118, 97, 114]) with
  | true => exact h6
  | false =>
  rw [cond_false]
  cases strEq w (bs [116, 101, 108, 108]) with
  | true => exact h7
  | false =>
  rw [cond_false]
  cases strEq w (bs [110, 101, 101, 100]) with
  | true => exact h8
  | false =>
  rw [cond_false]
  cases strEq w (bs [115, 97, 109, 101]) with
  | true => exact h2
  | false =>
  rw [cond_false]
  cases strEq w (bs [102, 97, 105, 108]) with
  | true => exact h9
  | false => exact h0
theorem formS_size (w : ByteArray) : (formS w).size ≤ 4 := formS_cases (P := fun f => f.size ≤ 4) w (by decide) (by decide) (by decide) (by decide) (by decide) (by decide) (by decide) (by decide) (by decide) (by decide)
theorem formS_sorts (w : ByteArray) : strEq (formS w) (bs []) = true ∨ 1 ≤ (cutPlus (formS w)).1.size :=
  formS_cases (P := fun f => strEq f (bs []) = true ∨ 1 ≤ (cutPlus f).1.size) w (by decide +kernel) (by decide +kernel) (by decide +kernel) (by decide +kernel) (by decide +kernel) (by decide +kernel) (by decide +kernel) (by decide +kernel) (by decide +kernel) (by decide +kernel)
theorem cutPlus_size (f : ByteArray) : (cutPlus f).1.size ≤ f.size := by
  unfold cutPlus
  cases hasPlus f with
  | false => exact Nat.le_refl _
  | true =>
    show (f.extract 0 (f.size - 1)).size ≤ f.size
    rw [ByteArray.size_extract]; omega
def fitsS (c : Int) (w : ByteArray) : Bool := cond (c == 112) (isPathS w) (cond (c == 110) (isNumS w 6) true)
def stepF (ws : List ByteArray) (sorts : ByteArray) (i : Nat) : Bool := fitsS (bt sorts ((min i (sorts.size - 1) : Nat) : Int)) (ws.getD i (bs []))
def formedL (ws : List ByteArray) (sorts : ByteArray) : Bool := scan (fun i => cond (stepF ws sorts i) none (some false)) true ws.length 0
def formedS (ws : List ByteArray) (f : ByteArray) : Bool := cond (decide (ws.length < (cutPlus f).1.size)) false (cond (decide (ws.length > (cutPlus f).1.size)) (cond (cutPlus f).2 (formedL ws (cutPlus f).1) false) (formedL ws (cutPlus f).1))
theorem minI_nat (i n : Nat) : minI (i : Int) (n : Int) = ((min i n : Nat) : Int) := by
  unfold minI
  split <;> omega
theorem sort_at {sorts : ByteArray} (h1 : 1 ≤ sorts.size) (h2 : sorts.size ≤ 140737488355328) (i : Nat) (K : Int → Option R) : idxStr sorts (minI (i : Int) (IntKind.wrap .i64 ((sorts.size : Int) - 1))) K = K (bt sorts ((min i (sorts.size - 1) : Nat) : Int)) := by
  rw [wrap_sub1 h1 h2, minI_nat, idxStr_nat (by omega)]
theorem prog_forms {k : Nat} (hk : Many k) (ws : List ByteArray) (hl : ws.length ≤ 140737488355328) (hw : ∀ w ∈ ws, w.size ≤ 140737488355328) (sorts : ByteArray) (h1 : 1 ≤ sorts.size) (h2 : sorts.size ≤ 140737488355328) (S : List LV) (J0 : Unit → List LV → Option R) (Jret : Bool × Unit → List LV → Option R) :
    rounds (G.action_hasForm.b0 k J0 Jret) k (sorts, ws.map .str, (ws.length : Int), (0 : Int), ()) S = cond (formedL ws sorts) (J0 () S) (Jret (false, ()) S) := by
  have hk' := hk
  unfold Many at hk'
  have h := rounds_scan0 (b := G.action_hasForm.b0 k J0 Jret) (fun i => (sorts, ws.map LV.str, (ws.length : Int), (i : Int), ())) S ws.length k (fun i => cond (stepF ws sorts i) none (some (Jret (false, ()) S))) (J0 () S) (fun rec i hi => ?_) (fun rec => ?_) (by omega)
  · refine Eq.trans h ?_
    rw [scan_cond]; rfl
  · unfold G.action_hasForm.b0 G.action_hasForm.q2 G.action_hasForm.q3 G.action_hasForm.q4 G.action_hasForm.q5 G.action_hasForm.q6 G.action_hasForm.q7
    dsimp only
    rw [lt_nat, ifB_pos hi, idxL_nat (by simpa using hi), map_str_get ws i hi, wrap_succ (by omega)]
    simp only [asLeaf_str, sort_at h1 h2]
    unfold stepF fitsS
    have hz := get_size hw i hi
    generalize ws.getD i (bs []) = w at hz
    generalize bt sorts ((min i (sorts.size - 1) : Nat) : Int) = c
    have e1 : ∀ K : Bool × Unit → List LV → Option R, G.action_isNumber.fn k (w, 6, ()) S K = K (isNumS w 6, ()) S := fun K => isNumber_at k w 6 hz S K
    simp only [prog_IsPath hk, e1]
    cases c == 112 with
    | true => cases isPathS w <;> rfl
    | false =>
      cases c == 110 with
      | true => cases isNumS w 6 <;> rfl
      | false => rfl
  · unfold G.action_hasForm.b0 G.action_hasForm.q2
    dsimp only
    rw [lt_nat, ifB_neg (Nat.lt_irrefl _)]
theorem prog_hasForm {k : Nat} (hk : Many k) (ws : List ByteArray) (hl : ws.length ≤ 140737488355328) (hw : ∀ w ∈ ws, w.size ≤ 140737488355328) (f : ByteArray) (h1 : 1 ≤ (cutPlus f).1.size) (h2 : f.size ≤ 140737488355328) (S : List LV) (K : Bool × Unit → List LV → Option R) :
    G.action_hasForm.fn k (ws.map .str, f, ()) S K = K (formedS ws f, ()) S := by
  unfold G.action_hasForm.fn G.action_hasForm.q1 G.action_hasForm.q0 formedS
  dsimp only
  have h3 := Nat.le_trans (cutPlus_size f) h2
  rw [CutSuffix_at k f h2]
  dsimp only
  rw [List.length_map, prog_forms hk ws hl hw _ h1 h3, lt_nat, gt_nat]
  cases decide (ws.length < (cutPlus f).1.size) with
  | true => rfl
  | false =>
    cases decide (ws.length > (cutPlus f).1.size) with
    | true =>
      cases (cutPlus f).2 with
      | true =>
        show cond _ _ _ = _
        cases formedL ws (cutPlus f).1 <;> rfl
      | false => rfl
    | false =>
      show cond _ _ _ = _
      cases formedL ws (cutPlus f).1 <;> rfl
theorem ref_fits {k : Nat} (hk : Many k) (c : Int) (w : ByteArray) (hw : w.size ≤ 140737488355328) (S : List LV) (K : Bool × Unit → List LV → Option R) : G.smithyardref5_fits.fn k (c, w, ()) S K = K (fitsS c w, ()) S := by
  unfold G.smithyardref5_fits.fn fitsS
  dsimp only
  have e1 : ∀ K : Int × Bool × Unit → List LV → Option R, G.smithyardref5_numbered.fn k (w, 6, ()) S K = K (numD w 6, isNumS w 6, ()) S := fun K => ref_numberedD hk w 6 (by decide) hw S K
  simp only [ref_IsPath hk, e1]
  cases c == 112 with
  | true => rfl
  | false => cases c == 110 <;> rfl
theorem ref_forms {k : Nat} (hk : Many k) (c ws : List ByteArray) (hl : ws.length ≤ 140737488355328) (hw : ∀ w ∈ ws, w.size ≤ 140737488355328) (sorts : ByteArray) (h1 : 1 ≤ sorts.size) (h2 : sorts.size ≤ 140737488355328) (S : List LV) (J0 : List LV × List LV × Unit → List LV → Option R) (Jret : Bool × Unit → List LV → Option R) :
    rounds (G.smithyardref5_formed.b0 k J0 Jret) k (c.map .str, sorts, ws.map .str, (0 : Int), ()) S = cond (formedL ws sorts) (J0 (c.map .str, ws.map .str, ()) S) (Jret (false, ()) S) := by
  have hk' := hk
  unfold Many at hk'
  have h := rounds_scan0 (b := G.smithyardref5_formed.b0 k J0 Jret) (fun i => (c.map LV.str, sorts, ws.map LV.str, (i : Int), ())) S ws.length k (fun i => cond (stepF ws sorts i) none (some (Jret (false, ()) S))) (J0 (c.map .str, ws.map .str, ()) S) (fun rec i hi => ?_) (fun rec => ?_) (by omega)
  · refine Eq.trans h ?_
    rw [scan_cond]; rfl
  · unfold G.smithyardref5_formed.b0 G.smithyardref5_formed.q2 G.smithyardref5_formed.q3
    dsimp only
    rw [List.length_map, lt_nat, ifB_pos hi, sort_at h1 h2, idxL_nat (by simpa using hi), map_str_get ws i hi, wrap_succ (by omega)]
    simp only [asLeaf_str, ref_fits hk _ _ (get_size hw i hi)]
    unfold stepF
    cases fitsS (bt sorts ((min i (sorts.size - 1) : Nat) : Int)) (ws.getD i (bs [])) <;> rfl
  · unfold G.smithyardref5_formed.b0
    dsimp only
    rw [List.length_map, lt_nat, ifB_neg (Nat.lt_irrefl _)]
theorem fail_len {w : ByteArray} {ws : List ByteArray} (h : strEq w (bs [102, 97, 105, 108]) = true) (h2 : formedS ws (formS w) = true) : ∃ v vs, ws = v :: vs := by
  rw [strEq_iff] at h
  subst h
  have e1 : (cutPlus (formS (bs [102, 97, 105, 108]))).1.size = 1 := by decide +kernel
  unfold formedS at h2
  rw [e1] at h2
  cases ws with
  | nil => exact absurd h2 (by decide)
  | cons v vs => exact ⟨v, vs, rfl⟩
/-- What stands behind a command's first word: its form, and no 'fail 0'. -/
def noFail (w : ByteArray) (ws : List ByteArray) : Bool := !(strEq w (bs [102, 97, 105, 108]) && strEq (ws.getD 0 (bs [])) (bs [48]))
theorem tail_at (w : ByteArray) (ws : List ByteArray) (K : List LV → Option R) : slL ((w :: ws).map LV.str) 1 (((w :: ws).map LV.str).length : Int) K = K (ws.map .str) := by
  unfold slL
  rw [ifB_pos ⟨by omega, by simp; omega, by simp⟩]
  simp only [Int.toNat_natCast]
  rw [List.take_of_length_le (Nat.le_refl _)]
  rfl
theorem ref_formed {k : Nat} (hk : Many k) (w : ByteArray) (ws : List ByteArray) (hl : ws.length ≤ 140737488355328) (hw : ∀ w ∈ ws, w.size ≤ 140737488355328) (hf : strEq (formS w) (bs []) = false) (S : List LV) (K : Bool × Unit → List LV → Option R) :
    G.smithyardref5_formed.fn k ((w :: ws).map .str, ()) S K = K (formedS ws (formS w) && noFail w ws, ()) S := by
  unfold G.smithyardref5_formed.fn G.smithyardref5_formed.q0 G.smithyardref5_formed.q1 G.smithyardref5_formed.q4
  have h1 : 1 ≤ (cutPlus (formS w)).1.size := by
    rcases formS_sorts w with h | h
    · rw [hf] at h; cases h
    · exact h
  have h2 := formS_size w
  have h3 := cutPlus_size (formS w)
  dsimp only
  simp only [idx_str0, asLeaf_str, ref_form, tail_at]
  rw [CutSuffix_at k _ (by omega)]
  dsimp only
  rw [List.length_map, ref_forms hk (w :: ws) ws hl hw _ h1 (by omega), lt_nat, gt_nat]
  have hfin : formedL ws (cutPlus (formS w)).1 = true → formedS ws (formS w) = true → (ifB (!(strEq w (bs [102, 97, 105, 108]))) (K (true, ()) S) (idxL (ws.map LV.str) 0 fun v18 => asStr (leaf v18 0) fun s19 => K (!(strEq s19 (bs [48])), ()) S)) = K (noFail w ws, ()) S := fun _ hy => by
    unfold noFail
    cases hq : strEq w (bs [102, 97, 105, 108]) with
    | false => rfl
    | true =>
      obtain ⟨v, vs, rfl⟩ := fail_len hq hy
      simp only [Bool.not_true, ifB_false, idx_str0, asLeaf_str, List.getD_cons_zero, Bool.true_and]
  have hdef : formedS ws (formS w) = cond (decide (ws.length < (cutPlus (formS w)).1.size)) false (cond (decide (ws.length > (cutPlus (formS w)).1.size)) (cond (cutPlus (formS w)).2 (formedL ws (cutPlus (formS w)).1) false) (formedL ws (cutPlus (formS w)).1)) := rfl
  cases ha : decide (ws.length < (cutPlus (formS w)).1.size) with
  | true =>
    rw [hdef, ha]; rfl
  | false =>
    rw [ha] at hdef
    cases hb : decide (ws.length > (cutPlus (formS w)).1.size) with
    | true =>
      rw [hb] at hdef
      cases hc : (cutPlus (formS w)).2 with
      | true =>
        rw [hc] at hdef
        simp only [ifB_false, ifB_true, Bool.not_true]
        cases hd : formedL ws (cutPlus (formS w)).1 with
        | true =>
          rw [hd] at hdef
          rw [cond_true]
          simp only [idx_str0, asLeaf_str]
          refine Eq.trans (hfin hd hdef) ?_
          rw [hdef]; rfl
        | false => rw [hd] at hdef; rw [hdef]; rfl
      | false => rw [hc] at hdef; rw [hdef]; rfl
    | false =>
      rw [hb] at hdef
      simp only [ifB_false]
      cases hd : formedL ws (cutPlus (formS w)).1 with
      | true =>
        rw [hd] at hdef
        rw [cond_true]
        simp only [idx_str0, asLeaf_str]
        refine Eq.trans (hfin hd hdef) ?_
        rw [hdef]; rfl
      | false => rw [hd] at hdef; rw [hdef]; rfl
/-- What is wrong with a command. -/
def cmdS (c : List ByteArray) : Int := cond (decide (c.length = 0)) 9 (cond (decide (c.length > 50)) 2 (cond (badWords c) 3 (cond (strEq (formS (c.getD 0 (bs []))) (bs [])) 4 (cond (formedS c.tail (formS (c.getD 0 (bs []))) && noFail (c.getD 0 (bs [])) c.tail) 0 3))))
theorem prog_checkCommand {k : Nat} (hk : Many k) (c : List ByteArray) (hs : ∀ w ∈ c, w.size ≤ 140737488355328) (S : List LV) (K : Int × Unit → List LV → Option R) : G.action_checkCommand.fn k (c.map .str, ()) S K = K (cmdS c, ()) S := by
  unfold G.action_checkCommand.fn
  cases c with
  | nil => rfl
  | cons w ws =>
    unfold cmdS
    dsimp only
    rw [show ((((w :: ws).map LV.str).length : Int) == 0) = false by rw [beq_eq_false_iff_ne]; simp; omega, ifB_false, decide_eq_false (show ¬ (w :: ws).length = 0 by simp), cond_false]
    have hle : (((w :: ws).map LV.str).length : Int) = ((w :: ws).length : Int) := by rw [List.length_map]
    rw [show decide ((((w :: ws).map LV.str).length : Int) > 50) = decide ((w :: ws).length > 50) by rw [hle]; exact gt_nat _ 50]
    cases hl : decide ((w :: ws).length > 50) with
    | true => rfl
    | false =>
      have hlen : (w :: ws).length ≤ 50 := by have := of_decide_eq_false hl; omega
      rw [ifB_false, prog_words hk _ (by omega) hs]
      dsimp only
      cases badWords (w :: ws) with
      | true => rfl
      | false =>
        simp only [ifB_false, idx_str0, asLeaf_str, prog_formOf, List.getD_cons_zero, List.tail_cons, cond_false, tail_at]
        cases hf : strEq (formS w) (bs []) with
        | true => rfl
        | false =>
          have h1 : 1 ≤ (cutPlus (formS w)).1.size := by
            rcases formS_sorts w with h | h
            · rw [hf] at h; cases h
            · exact h
          have h2 := formS_size w
          simp only [ifB_false]
          rw [prog_hasForm hk ws (by simp only [List.length_cons] at hlen; omega) (fun x hx => hs x (by simp [hx])) _ h1 (by omega)]
          dsimp only
          cases hg : formedS ws (formS w) with
          | false => rfl
          | true =>
            unfold noFail
            cases hq : strEq w (bs [102, 97, 105, 108]) with
            | false => rfl
            | true =>
              obtain ⟨v, vs, rfl⟩ := fail_len hq hg
              simp only [Bool.not_true, ifB_false, ifB_true, idx_str1, asLeaf_str, List.getD_cons_zero, Bool.true_and]
              cases strEq v (bs [48]) <;> rfl
theorem ref_checkCommand {k : Nat} (hk : Many k) (c : List ByteArray) (hs : ∀ w ∈ c, w.size ≤ 140737488355328) (S : List LV) (K : Int × Unit → List LV → Option R) : G.smithyardref5_checkCommand.fn k (c.map .str, ()) S K = K (cmdS c, ()) S := by
  unfold G.smithyardref5_checkCommand.fn
  cases c with
  | nil => rfl
  | cons w ws =>
    unfold cmdS
    dsimp only
    rw [show ((((w :: ws).map LV.str).length : Int) == 0) = false by rw [beq_eq_false_iff_ne]; simp; omega, ifB_false, decide_eq_false (show ¬ (w :: ws).length = 0 by simp), cond_false]
    have hle : (((w :: ws).map LV.str).length : Int) = ((w :: ws).length : Int) := by rw [List.length_map]
    rw [show decide ((((w :: ws).map LV.str).length : Int) > 50) = decide ((w :: ws).length > 50) by rw [hle]; exact gt_nat _ 50]
    cases hl : decide ((w :: ws).length > 50) with
    | true => rfl
    | false =>
      have hlen : (w :: ws).length ≤ 50 := by have := of_decide_eq_false hl; omega
      rw [ifB_false, ref_words hk _ (by omega) hs]
      dsimp only
      cases badWords (w :: ws) with
      | true => rfl
      | false =>
        simp only [idx_str0, asLeaf_str, ref_form, List.getD_cons_zero, List.tail_cons, cond_false]
        cases hf : strEq (formS w) (bs []) with
        | true => rfl
        | false =>
          simp only [Bool.not_false, Bool.not_true, ifB_false]
          rw [ref_formed hk w ws (by simp only [List.length_cons] at hlen; omega) (fun x hx => hs x (by simp [hx])) hf]
          dsimp only
          cases formedS ws (formS w) && noFail w ws <;> rfl
end
end Go.Lm

/- Names, variables, outputs of an action. -/
set_option maxRecDepth 100000
namespace Go.Lm
section
variable {R : Type}
/-! ### names -/
def smallB (c : Int) : Bool := decide (c ≥ 97) && decide (c ≤ 122)
def digitB (c : Int) : Bool := decide (c ≥ 48) && decide (c ≤ 57)
def keyWords : List ByteArray := [bs [109, 97, 99, 114, 111], bs [102, 111, 114], bs [105, 110], bs [105, 102], bs [101, 108, 115, 101], bs [117, 115, 101], bs [102, 105, 108, 101, 115], bs [99, 104, 111, 111, 115, 101]]
def nameAt (s : ByteArray) (i : Nat) : Bool := smallB (bt s i) || (!(decide (i = 0)) && (digitB (bt s i) || (bt s i == 95)))
def isNameS (s : ByteArray) : Bool := scan (fun i => cond (nameAt s i) none (some false)) true s.size 0 && (!(keyWords.any (strEq s)) && (decide (1 ≤ s.size) && decide (s.size ≤ 40)))
theorem ref4_within (k : Nat) (n a b : Int) (S : List LV) (K : Bool × Unit → List LV → Option R) : G.smithyardref4_within.fn k (n, a, b, ()) S K = K (decide (a ≤ n) && decide (n ≤ b), ()) S := by
  unfold G.smithyardref4_within.fn
  dsimp only
  by_cases h : a ≤ n
  · rw [ifB_pos (show n ≥ a from h), decide_eq_true h, Bool.true_and]
  · rw [ifB_neg (show ¬ n ≥ a from h), decide_eq_false h, Bool.false_and]
theorem ref5_within (k : Nat) (n a b : Int) (S : List LV) (K : Bool × Unit → List LV → Option R) : G.smithyardref5_within.fn k (n, a, b, ()) S K = K (decide (a ≤ n) && decide (n ≤ b), ()) S := by
  unfold G.smithyardref5_within.fn
  dsimp only
  by_cases h : a ≤ n
  · rw [ifB_pos (show n ≥ a from h), decide_eq_true h, Bool.true_and]
  · rw [ifB_neg (show ¬ n ≥ a from h), decide_eq_false h, Bool.false_and]
theorem eq0_nat (i : Nat) : ((i : Int) == 0) = decide (i = 0) := by
  by_cases h : i = 0
  · subst h; rfl
  · rw [decide_eq_false h, beq_eq_false_iff_ne]; omega
theorem size_le (n m : Nat) : decide ((n : Int) ≤ (m : Int)) = decide (n ≤ m) := by simp
theorem ref_IsName {k : Nat} (hk : Many k) (s : ByteArray) (hs : s.size ≤ 140737488355328) (S : List LV) (K : Bool × Unit → List LV → Option R) : G.smithyardref4_IsName.fn k (s, ()) S K = K (isNameS s, ()) S := by
  unfold Many at hk
  unfold G.smithyardref4_IsName.fn isNameS
  dsimp only
  refine Eq.trans (rounds_scan0 (fun i => (s, (i : Int), ())) S s.size k (fun i => cond (nameAt s i) none (some (K (false, ()) S))) (K (!(keyWords.any (strEq s)) && (decide (1 ≤ s.size) && decide (s.size ≤ 40)), ()) S) (fun rec i hi => ?_) (fun rec => ?_) (by omega)) ?_
  · unfold G.smithyardref4_IsName.b0 G.smithyardref4_IsName.q1 G.smithyardref4_IsName.q0
    dsimp only
    rw [lt_nat, ifB_pos hi, idxStr_nat hi, wrap_succ (by omega), eq0_nat]
    unfold nameAt smallB digitB
    generalize bt s (i : Int) = c
    have e1 : (c != 95) = !(c == 95) := rfl
    rw [e1]
    generalize decide (c ≥ 97) = b1
    generalize decide (c ≤ 122) = b2
    generalize decide (i = 0) = b3
    generalize decide (c ≥ 48) = b4
    generalize decide (c ≤ 57) = b5
    generalize (c == 95) = b6
    cases b1 <;> cases b2 <;> cases b3 <;> cases b4 <;> cases b5 <;> cases b6 <;> rfl
  · unfold G.smithyardref4_IsName.b0 G.smithyardref4_IsName.q2
    dsimp only
    rw [lt_nat, ifB_neg (Nat.lt_irrefl _)]
    have e : ∀ K' : Bool × Unit → List LV → Option R, G.smithyardref4_within.fn k ((s.size : Int), 1, 40, ()) S K' = K' (decide (1 ≤ s.size) && decide (s.size ≤ 40), ()) S := fun K' => by
      rw [ref4_within]
      have h1 := size_le 1 s.size
      have h2 := size_le s.size 40
      exact congrArg (fun b => K' (b, ()) S) (congr (congrArg and h1) h2)
    simp only [e]
    unfold keyWords
    simp only [List.any_cons, List.any_nil]
    generalize strEq s (bs [109, 97, 99, 114, 111]) = b1
    generalize strEq s (bs [102, 111, 114]) = b2
    generalize strEq s (bs [105, 110]) = b3
    generalize strEq s (bs [105, 102]) = b4
    generalize strEq s (bs [101, 108, 115, 101]) = b5
    generalize strEq s (bs [117, 115, 101]) = b6
    generalize strEq s (bs [102, 105, 108, 101, 115]) = b7
    generalize strEq s (bs [99, 104, 111, 111, 115, 101]) = b8
    cases b1 with
    | true => rfl
    | false =>
    cases b2 with
    | true => rfl
    | false =>
    cases b3 with
    | true => rfl
    | false =>
    cases b4 with
    | true => rfl
    | false =>
    cases b5 with
    | true => rfl
    | false =>
    cases b6 with
    | true => rfl
    | false =>
    cases b7 with
    | true => rfl
    | false =>
    cases b8 <;> rfl
  · rw [scan_cond]
    cases scan (fun j => cond (nameAt s j) none (some false)) true s.size 0 <;> rfl
theorem prog_words8 (k : Nat) (S : List LV) (K : List LV × Unit → List LV → Option R) : G.script_words.fn k () S K = K (keyWords.map .str, ()) S := rfl
theorem prog_isSmall (k : Nat) (c : Int) (S : List LV) (K : Bool × Unit → List LV → Option R) : G.script_isSmall.fn k (c, ()) S K = K (smallB c, ()) S := by
  unfold G.script_isSmall.fn smallB
  dsimp only
  cases decide (c ≥ 97) <;> rfl
theorem prog_isDigit (k : Nat) (c : Int) (S : List LV) (K : Bool × Unit → List LV → Option R) : G.script_isDigit.fn k (c, ()) S K = K (digitB c, ()) S := by
  unfold G.script_isDigit.fn digitB
  dsimp only
  cases decide (c ≥ 48) <;> rfl
theorem prog_IsName {k : Nat} (hk : Many k) (s : ByteArray) (S : List LV) (K : Bool × Unit → List LV → Option R) : G.script_IsName.fn k (s, ()) S K = K (isNameS s, ()) S := by
  have hk' := hk
  unfold Many at hk'
  unfold G.script_IsName.fn
  dsimp only
  by_cases h1 : 1 ≤ s.size
  · rw [ifB_neg (show ¬ (s.size : Int) < 1 by omega)]
    by_cases h2 : s.size ≤ 40
    · rw [ifB_neg (show ¬ (s.size : Int) > 40 by omega)]
      have e0 : ∀ K' : Int → Option R, idxStr s 0 K' = K' (bt s 0) := fun K' => idxStr_nat (i := 0) (by omega) K'
      rw [e0, prog_isSmall]
      dsimp only
      obtain ⟨d, hd⟩ : ∃ d, s.size = d + 1 := ⟨s.size - 1, by omega⟩
      have hn : isNameS s = (scan (fun i => cond (nameAt s i) none (some false)) true s.size 0 && !(keyWords.any (strEq s))) := by
        unfold isNameS
        rw [decide_eq_true h1, decide_eq_true h2]
        cases keyWords.any (strEq s) <;> rfl
      cases hsm : smallB (bt s 0) with
      | false =>
        rw [Bool.not_false, ifB_true, hn, hd]
        have : nameAt s 0 = false := by
          unfold nameAt
          show (smallB (bt s 0) || _) = false
          rw [hsm]; rfl
        simp only [scan, this]
        rfl
      | true =>
        rw [Bool.not_true, ifB_false, hn]
        refine Eq.trans (rounds_scan0 (fun i => (s, (s.size : Int), (i : Int), ())) S s.size k (fun i => cond (nameAt s i) none (some (K (false, ()) S))) (K (!(keyWords.any (strEq s)), ()) S) (fun rec i hi => ?_) (fun rec => ?_) (by omega)) ?_
        · unfold G.script_IsName.b0
          dsimp only
          rw [lt_nat, ifB_pos hi]
          simp only [idxStr_nat hi, wrap_succ (show i < 9223372036854775807 by omega), prog_isSmall, prog_isDigit]
          have hna : nameAt s i = (smallB (bt s i) || (digitB (bt s i) || (bt s i == 95))) := by
            unfold nameAt
            by_cases hi0 : i = 0
            · subst hi0
              show (smallB (bt s 0) || _) = (smallB (bt s 0) || _)
              rw [hsm]; rfl
            · rw [decide_eq_false hi0]; rfl
          rw [hna]
          have e1 : (bt s (i : Int) != 95) = !(bt s (i : Int) == 95) := rfl
          rw [e1]
          cases smallB (bt s (i : Int)) <;> cases digitB (bt s (i : Int)) <;> cases (bt s (i : Int) == 95) <;> rfl
        · unfold G.script_IsName.b0
          dsimp only
          rw [lt_nat, ifB_neg (Nat.lt_irrefl _), prog_words8]
          dsimp only
          rw [contains_at hk keyWords (by decide)]
        · rw [scan_cond]
          cases scan (fun j => cond (nameAt s j) none (some false)) true s.size 0 <;> rfl
    · rw [ifB_pos (show (s.size : Int) > 40 by omega)]
      have : isNameS s = false := by
        unfold isNameS
        rw [decide_eq_false h2]; simp
      rw [this]
  · rw [ifB_pos (show (s.size : Int) < 1 by omega)]
    have : isNameS s = false := by
      unfold isNameS
      rw [decide_eq_false h1]; simp
    rw [this]
/-! ### variables -/
theorem idx_okF {ok : Int → Bool} (hh : ∀ c, 128 ≤ c → ok c = false) {p : Nat → Bool} (hp : ∀ x, x ≤ 1114111 → p x = !(ok (x : Int))) (s : ByteArray) : ∀ (f pos : Nat), s.size ≤ pos + f → decide (Lib.idxFuncFrom p true s f pos ≥ 0) = !(scan (fun i => cond (ok (bt s i)) none (some false)) true (s.size - pos) pos)
  | 0, pos, h => by
    have : s.size - pos = 0 := by omega
    rw [this]; rfl
  | f + 1, pos, h => by
    unfold Lib.idxFuncFrom
    by_cases hps : pos < s.size
    · obtain ⟨d, hd⟩ : ∃ d, s.size - pos = d + 1 := ⟨s.size - pos - 1, by omega⟩
      rw [if_pos hps, hd]
      simp only [scan]
      rw [hp _ (Lib.rune_le s pos)]
      have hb := bt_nat hps
      rcases Nat.lt_or_ge (s[pos]'hps).toNat 128 with h1 | h1
      · rw [decode_ascii s pos hps h1, ← hb]
        cases ho : ok (bt s pos) with
        | true =>
          have ih := idx_okF hh hp s f (pos + 1) (by omega)
          have : s.size - (pos + 1) = d := by omega
          rw [this] at ih
          simpa using ih
        | false => simp
      · obtain ⟨h2, _⟩ := decode_high s pos hps h1
        have h3 : ok (((Utf8.decode s pos).1 : Nat) : Int) = false := hh _ (by omega)
        have h4 : ok (bt s pos) = false := hh _ (by rw [hb]; omega)
        rw [h3, h4]
        simp
    · have : s.size - pos = 0 := by omega
      rw [if_neg hps, this]; rfl
def okV (c : Int) : Bool := decide (32 ≤ c) && decide (c ≤ 126)
theorem pred_var (k x : Nat) : predA ((G.action_checkVars_1.en (R := Bool) k).h) x = some (!(okV (x : Int))) := by
  show (G.action_checkVars_1.fn k ((x : Int), ()) [] fun r S => (match resE G.action_checkVars_1.rs r with | .bool b => some b | _ => none) : Option Bool) = _
  unfold G.action_checkVars_1.fn okV
  dsimp only
  by_cases h1 : (x : Int) < 32
  · have h2 : ¬ (32 ≤ (x : Int)) := by omega
    rw [ifB_pos h1]
    simp only [h2, decide_false, Bool.false_and]
    rfl
  · have h2 : 32 ≤ (x : Int) := by omega
    rw [ifB_neg h1]
    by_cases h3 : (x : Int) > 126
    · have h4 : ¬ ((x : Int) ≤ 126) := by omega
      simp only [h3, h4, decide_false, decide_true, Bool.and_false]
      rfl
    · have h4 : (x : Int) ≤ 126 := by omega
      simp only [h2, h3, h4, decide_false, decide_true, Bool.and_true]
      rfl
theorem prog_badValue (k : Nat) (s : ByteArray) (S : List LV) (K : Bool × Unit → List LV → Option R) : G.strings_ContainsFunc_at_action_checkVars_1.fn k (s, (), ()) S K = K (!(allB 32 126 s), ()) S := by
  unfold G.strings_ContainsFunc_at_action_checkVars_1.fn G.strings_IndexFunc_at_action_checkVars_1.fn H.indexFunc_at_action_checkVars_1.fn H.indexFunc.fn handF idxFF
  dsimp only
  have hok : H.indexFuncOk ((G.action_checkVars_1.en (R := Bool) k).h) := fun x _ => by rw [pred_var]; simp
  rw [show (Classical.propDecidable (H.indexFuncOk ((G.action_checkVars_1.en (R := Bool) k).h))).decide = true from @decide_eq_true _ (Classical.propDecidable _) hok]
  dsimp only
  have h := idx_okF (ok := okV) (fun c hc => by unfold okV; rw [decide_eq_false (show ¬ c ≤ 126 by omega), Bool.and_false]) (p := fun x => (predA ((G.action_checkVars_1.en (R := Bool) k).h) x).getD false) (fun x _ => by simp only [pred_var]; rfl) s s.size 0 (by omega)
  rw [Nat.sub_zero] at h
  have e : allB 32 126 s = scan (fun i => cond (okV (bt s i)) none (some false)) true s.size 0 := rfl
  rw [e, ← h]
  rfl
abbrev AVar := ByteArray × ByteArray
def varL (x : AVar) : LV := .agg [.str x.1, .str x.2]
def varZ : AVar := (bs [], bs [])
def varS (l : List AVar) (i : Nat) : Option Int :=
  cond (!(isNameS (l.getD i varZ).1)) (some 5) (cond (decide ((l.getD i varZ).2.size > 300) || !(allB 32 126 (l.getD i varZ).2)) (some 3)
    (cond (decide (0 < i) && (strLt (l.getD i varZ).1 (l.getD (i - 1) varZ).1 || strEq (l.getD i varZ).1 (l.getD (i - 1) varZ).1)) (some 8) none))
def varsS (l : List AVar) : Int := cond (decide (l.length > 30)) 2 (scan (varS l) 0 l.length 0)
theorem var_get (l : List AVar) (i : Nat) (h : i < l.length) : (l.map varL).getD i .any = varL (l.getD i varZ) := by simp [List.getD_eq_getElem?_getD, h]
theorem varL_mat (x : AVar) (K : List LV → Option R) : mat 2 (varL x) K = K [.str x.1, .str x.2] := rfl
theorem varL_0 (x : AVar) (K : ByteArray → Option R) : asStr (leaf (varL x) 0) K = K x.1 := rfl
theorem varL_1 (x : AVar) (K : ByteArray → Option R) : asStr (leaf (varL x) 1) K = K x.2 := rfl
theorem mem_get {α : Type} {l : List α} {i : Nat} {z : α} (h : i < l.length) : l.getD i z ∈ l := by
  rw [List.getD_eq_getElem?_getD, List.getElem?_eq_getElem h]; exact List.getElem_mem h
theorem var_prev (l : List AVar) (i : Nat) (hi : i < l.length) (hl : l.length ≤ 140737488355328) (a : Option R) (J : Option R) :
    ifB (decide ((i : Int) > 0)) (idxL (l.map varL) (IntKind.wrap .i64 ((i : Int) - 1)) fun v => asStr (leaf v 0) fun s => ifB (strLt (l.getD i varZ).1 s || strEq (l.getD i varZ).1 s) a J) J =
      cond (decide (0 < i) && (strLt (l.getD i varZ).1 (l.getD (i - 1) varZ).1 || strEq (l.getD i varZ).1 (l.getD (i - 1) varZ).1)) a J := by
  by_cases h0 : 0 < i
  · rw [ifB_pos (show (i : Int) > 0 by omega), decide_eq_true h0, wrap_pred h0 (by omega), idxL_nat (by simp; omega), var_get _ _ (by omega), varL_0, Bool.true_and]
    cases (strLt (l.getD i varZ).1 (l.getD (i - 1) varZ).1 || strEq (l.getD i varZ).1 (l.getD (i - 1) varZ).1) <;> rfl
  · rw [ifB_neg (show ¬ (i : Int) > 0 by omega), decide_eq_false h0]; rfl
theorem gt300 (n : Nat) : decide ((n : Int) > 300) = decide (n > 300) := gt_nat n 300
theorem ref_checkVars {k : Nat} (hk : Many k) (l : List AVar) (hs : ∀ x ∈ l, x.1.size ≤ 140737488355328) (S : List LV) (K : Int × Unit → List LV → Option R) : G.smithyardref5_checkVars.fn k (l.map varL, ()) S K = K (varsS l, ()) S := by
  have hk' := hk
  unfold Many at hk'
  unfold G.smithyardref5_checkVars.fn varsS
  dsimp only
  rw [List.length_map, show decide ((l.length : Int) > 30) = decide (l.length > 30) from gt_nat _ 30]
  cases hc : decide (l.length > 30) with
  | true => rfl
  | false =>
    have hlen : l.length ≤ 30 := by have := of_decide_eq_false hc; omega
    rw [ifB_false, cond_false]
    rw [← scan_map (fun n => K (n, ()) S)]
    refine rounds_scan0 (fun i => (l.map varL, (i : Int), ())) S l.length k _ _ (fun rec i hi => ?_) (fun rec => ?_) (by omega)
    · unfold G.smithyardref5_checkVars.b0 G.smithyardref5_checkVars.q0 G.smithyardref5_checkVars.q1
      dsimp only
      have hi2 : i < (l.map varL).length := by simpa using hi
      rw [List.length_map, lt_nat, ifB_pos hi]
      simp only [idxL_nat hi2, var_get _ _ hi, varL_0, varL_1, ref_IsName hk _ (hs _ (mem_get hi)), gt300, wrap_succ (show i < 9223372036854775807 by omega), var_prev l i hi (by omega)]
      unfold varS
      cases isNameS (l.getD i varZ).1 with
      | false => rfl
      | true =>
        simp only [Bool.not_true, ifB_false, cond_false]
        cases hz : decide ((l.getD i varZ).2.size > 300) with
        | true => rfl
        | false =>
          have := of_decide_eq_false hz
          rw [ref_allB hk _ (by omega)]
          dsimp only
          cases allB 32 126 (l.getD i varZ).2 with
          | false => rfl
          | true =>
            simp only [Bool.not_true, ifB_false, Bool.or_false, cond_false]
            cases (decide (0 < i) && (strLt (l.getD i varZ).1 (l.getD (i - 1) varZ).1 || strEq (l.getD i varZ).1 (l.getD (i - 1) varZ).1)) <;> rfl
    · unfold G.smithyardref5_checkVars.b0
      dsimp only
      rw [List.length_map, lt_nat, ifB_neg (Nat.lt_irrefl _)]
theorem prog_checkVars {k : Nat} (hk : Many k) (l : List AVar) (S : List LV) (K : Int × Unit → List LV → Option R) : G.action_checkVars.fn k (l.map varL, ()) S K = K (varsS l, ()) S := by
  have hk' := hk
  unfold Many at hk'
  unfold G.action_checkVars.fn varsS
  dsimp only
  rw [List.length_map, show decide ((l.length : Int) > 30) = decide (l.length > 30) from gt_nat _ 30]
  cases hc : decide (l.length > 30) with
  | true => rfl
  | false =>
    have hlen : l.length ≤ 30 := by have := of_decide_eq_false hc; omega
    rw [ifB_false, cond_false]
    rw [← scan_map (fun n => K (n, ()) S)]
    refine rounds_scan0 (fun i => (l.map varL, l.map varL, (l.length : Int), (i : Int), ())) S l.length k _ _ (fun rec i hi => ?_) (fun rec => ?_) (by omega)
    · unfold G.action_checkVars.b0 G.action_checkVars.q0
      dsimp only
      have hi2 : i < (l.map varL).length := by simpa using hi
      rw [lt_nat, ifB_pos hi]
      simp only [idxL_nat hi2, var_get _ _ hi, varL_mat, List.getD_cons_zero, List.getD_cons_succ, asStr_str, prog_IsName hk, gt300, wrap_succ (show i < 9223372036854775807 by omega), prog_badValue, var_prev l i hi (by omega)]
      unfold varS
      generalize (decide (0 < i) && (strLt (l.getD i varZ).1 (l.getD (i - 1) varZ).1 || strEq (l.getD i varZ).1 (l.getD (i - 1) varZ).1)) = b4
      generalize decide ((l.getD i varZ).2.size > 300) = b2
      generalize allB 32 126 (l.getD i varZ).2 = b3
      generalize isNameS (l.getD i varZ).1 = b1
      cases b1 <;> cases b2 <;> cases b3 <;> cases b4 <;> rfl
    · unfold G.action_checkVars.b0
      dsimp only
      rw [lt_nat, ifB_neg (Nat.lt_irrefl _)]
end
end Go.Lm

/- Outputs of an action, and what is wrong with an action. -/
set_option maxRecDepth 100000
namespace Go.Lm
section
variable {R : Type}
theorem setS_of (S : List LV) (K : List LV → Option R) : setS S K = K S := rfl
/-! ### the first error -/
def firstE (step : Nat → Option Int) (n : Nat) : Option Int := scan (fun i => (step i).map some) none n 0
theorem scan_firstE {β : Type} (f : Int → β) (fin : β) (step : Nat → Option Int) : ∀ (d i : Nat), scan (fun j => (step j).map f) fin d i = ((scan (fun j => (step j).map some) none d i).map f).getD fin
  | 0, _ => rfl
  | d + 1, i => by
    have ih := scan_firstE f fin step d (i + 1)
    simp only [scan]
    cases step i with
    | some r => rfl
    | none => exact ih
/-! ### outputs -/
def liesS (p q : ByteArray) : Bool := cond (decide (q.size + 1 ≤ p.size)) (strEq (p.extract 0 (q.size + 1)) (q ++ bs [47])) false
theorem prefix_of (k : Nat) (p t : ByteArray) (S : List LV) (K : Bool × Unit → List LV → Option R) : G.strings_HasPrefix.fn k (p, t, ()) S K = K (cond (decide (t.size ≤ p.size)) (strEq (p.extract 0 t.size) t) false, ()) S := by
  unfold G.strings_HasPrefix.fn G.internal_stringslite_HasPrefix.fn
  dsimp only
  by_cases h : t.size ≤ p.size
  · rw [ifB_pos (show (p.size : Int) ≥ (t.size : Int) by omega), decide_eq_true h, slStr_nat h]; rfl
  · rw [ifB_neg (show ¬ (p.size : Int) ≥ (t.size : Int) by omega), decide_eq_false h]; rfl
theorem size_slash (q : ByteArray) : (q ++ bs [47]).size = q.size + 1 := by rw [ByteArray.size_append]; rfl
theorem cat_slash {q : ByteArray} (h : q.size ≤ 140737488355328) (K : ByteArray → Option R) : catStr q (bs [47]) K = K (q ++ bs [47]) := by
  unfold catStr
  rw [ifB_pos (by have : (bs [47]).size = 1 := rfl; omega)]
theorem ref_Lies (k : Nat) (p q : ByteArray) (hq : q.size ≤ 140737488355328) (S : List LV) (K : Bool × Unit → List LV → Option R) : G.smithyardref1_Lies.fn k (p, q, ()) S K = K (liesS p q, ()) S := by
  unfold G.smithyardref1_Lies.fn liesS
  dsimp only
  rw [cat_slash hq, prefix_of, size_slash]
theorem prog_Within (k : Nat) (p q : ByteArray) (hq : q.size ≤ 140737488355328) (S : List LV) (K : Bool × Unit → List LV → Option R) : G.blob_Within.fn k (p, q, ()) S K = K (liesS p q, ()) S := by
  unfold G.blob_Within.fn liesS
  dsimp only
  rw [cat_slash hq, prefix_of, size_slash]
def outS (l : List ByteArray) (i : Nat) : Option Int :=
  cond (!(isPathS (l.getD i (bs [])))) (some 3) (cond (decide (0 < i) && (strLt (l.getD i (bs [])) (l.getD (i - 1) (bs [])) || strEq (l.getD i (bs [])) (l.getD (i - 1) (bs [])))) (some 8) none)
def underS (l : List ByteArray) (p : ByteArray) : Bool := l.any fun q => liesS p q
def outsS (l : List ByteArray) : Int := cond (decide (l.length = 0)) 9 (cond (decide (l.length > 100)) 2 ((firstE (outS l) l.length).getD (cond (l.any (underS l)) 12 0)))
theorem out_prev (l : List ByteArray) (i : Nat) (hi : i < l.length) (hl : l.length ≤ 140737488355328) (a : Option R) (J : Option R) :
    ifB (decide ((i : Int) > 0)) (idxL (l.map LV.str) (IntKind.wrap .i64 ((i : Int) - 1)) fun v => asStr (leaf v 0) fun s => ifB (strLt (l.getD i (bs [])) s || strEq (l.getD i (bs [])) s) a J) J =
      cond (decide (0 < i) && (strLt (l.getD i (bs [])) (l.getD (i - 1) (bs [])) || strEq (l.getD i (bs [])) (l.getD (i - 1) (bs [])))) a J := by
  by_cases h0 : 0 < i
  · rw [ifB_pos (show (i : Int) > 0 by omega), decide_eq_true h0, wrap_pred h0 (by omega), idxL_nat (by simp; omega), map_str_get l _ (by omega), asLeaf_str, Bool.true_and]
    cases (strLt (l.getD i (bs [])) (l.getD (i - 1) (bs [])) || strEq (l.getD i (bs [])) (l.getD (i - 1) (bs []))) <;> rfl
  · rw [ifB_neg (show ¬ (i : Int) > 0 by omega), decide_eq_false h0]; rfl
theorem ref_outs1 {k : Nat} (hk : Many k) (l : List ByteArray) (hl : l.length ≤ 100) (S : List LV) (J0 : List LV × Unit → List LV → Option R) (Jret : Int × Unit → List LV → Option R) :
    rounds (G.smithyardref5_checkOutputs.b0 k J0 Jret) k (l.map .str, (0 : Int), ()) S = ((firstE (outS l) l.length).map fun n => Jret (n, ()) S).getD (J0 (l.map .str, ()) S) := by
  have hk' := hk
  unfold Many at hk'
  unfold firstE
  rw [← scan_firstE]
  refine rounds_scan0 (fun i => (l.map LV.str, (i : Int), ())) S l.length k _ _ (fun rec i hi => ?_) (fun rec => ?_) (by omega)
  · unfold G.smithyardref5_checkOutputs.b0 G.smithyardref5_checkOutputs.q0
    dsimp only
    have hi2 : i < (l.map LV.str).length := by simpa using hi
    rw [List.length_map, lt_nat, ifB_pos hi]
    simp only [idxL_nat hi2, map_str_get l i hi, asLeaf_str, ref_IsPath hk, wrap_succ (show i < 9223372036854775807 by omega), out_prev l i hi (by omega)]
    unfold outS
    generalize (decide (0 < i) && (strLt (l.getD i (bs [])) (l.getD (i - 1) (bs [])) || strEq (l.getD i (bs [])) (l.getD (i - 1) (bs [])))) = b2
    cases isPathS (l.getD i (bs [])) <;> cases b2 <;> rfl
  · unfold G.smithyardref5_checkOutputs.b0
    dsimp only
    rw [List.length_map, lt_nat, ifB_neg (Nat.lt_irrefl _)]
theorem ref_outs2 {k : Nat} (hk : Many k) (l : List ByteArray) (hl : l.length ≤ 100) (hs : ∀ w ∈ l, w.size ≤ 140737488355328) (j : Nat) (hj : j < l.length) (S : List LV) (J4 : List LV × Int × Unit → List LV → Option R) (Jret : Int × Unit → List LV → Option R) :
    rounds (G.smithyardref5_checkOutputs.b2 k J4 Jret) k (l.map .str, (j : Int), (0 : Int), ()) S = cond (underS l (l.getD j (bs []))) (Jret (12, ()) S) (J4 (l.map .str, (j : Int), ()) S) := by
  have hk' := hk
  unfold Many at hk'
  have h := rounds_scan0 (b := G.smithyardref5_checkOutputs.b2 k J4 Jret) (fun i => (l.map LV.str, (j : Int), (i : Int), ())) S l.length k (fun i => cond (liesS (l.getD j (bs [])) (l.getD i (bs []))) (some (Jret (12, ()) S)) none) (J4 (l.map .str, (j : Int), ()) S) (fun rec i hi => ?_) (fun rec => ?_) (by omega)
  · refine Eq.trans h ?_
    rw [scan_first0 (bs []) (fun q => liesS (l.getD j (bs [])) q)]
    rfl
  · unfold G.smithyardref5_checkOutputs.b2
    dsimp only
    have hi2 : i < (l.map LV.str).length := by simpa using hi
    have hj2 : j < (l.map LV.str).length := by simpa using hj
    rw [List.length_map, lt_nat, ifB_pos hi]
    simp only [idxL_nat hi2, idxL_nat hj2, map_str_get l i hi, map_str_get l j hj, asLeaf_str, ref_Lies k _ _ (get_size hs i hi), wrap_succ (show i < 9223372036854775807 by omega)]
    cases liesS (l.getD j (bs [])) (l.getD i (bs [])) <;> rfl
  · unfold G.smithyardref5_checkOutputs.b2
    dsimp only
    rw [List.length_map, lt_nat, ifB_neg (Nat.lt_irrefl _)]
theorem ref_checkOutputs {k : Nat} (hk : Many k) (l : List ByteArray) (hs : ∀ w ∈ l, w.size ≤ 140737488355328) (S : List LV) (K : Int × Unit → List LV → Option R) : G.smithyardref5_checkOutputs.fn k (l.map .str, ()) S K = K (outsS l, ()) S := by
  have hk' := hk
  unfold Many at hk'
  unfold G.smithyardref5_checkOutputs.fn outsS
  dsimp only
  rw [List.length_map, eq0_nat, show decide ((l.length : Int) > 100) = decide (l.length > 100) from gt_nat _ 100]
  cases decide (l.length = 0) with
  | true => rfl
  | false =>
    cases hc : decide (l.length > 100) with
    | true => rfl
    | false =>
      have hlen : l.length ≤ 100 := by have := of_decide_eq_false hc; omega
      rw [ifB_false, ifB_false, ref_outs1 hk l hlen]
      cases firstE (outS l) l.length with
      | some e => rfl
      | none =>
        show rounds (G.smithyardref5_checkOutputs.b1 k _ _) k (l.map LV.str, (0 : Int), ()) S = K (cond (l.any (underS l)) 12 0, ()) S
        have h := rounds_scan0 (b := G.smithyardref5_checkOutputs.b1 k (fun (_ : Unit) S => K (0, ()) S) (fun (o : Int × Unit) S => K (o.1, ()) S)) (fun i => (l.map LV.str, (i : Int), ())) S l.length k (fun i => cond (underS l (l.getD i (bs []))) (some (K (12, ()) S)) none) (K (0, ()) S) (fun rec i hi => ?_) (fun rec => ?_) (by omega)
        · refine Eq.trans h ?_
          rw [scan_first0 (bs []) (underS l)]
          cases l.any (underS l) <;> rfl
        · unfold G.smithyardref5_checkOutputs.b1
          dsimp only
          rw [List.length_map, lt_nat, ifB_pos hi, ref_outs2 hk l hlen hs i hi, wrap_succ (by omega)]
          cases underS l (l.getD i (bs [])) <;> rfl
        · unfold G.smithyardref5_checkOutputs.b1
          dsimp only
          rw [List.length_map, lt_nat, ifB_neg (Nat.lt_irrefl _)]
theorem prog_outs1 {k : Nat} (hk : Many k) (l : List ByteArray) (hl : l.length ≤ 100) (S : List LV) (J0 : List LV × Unit → List LV → Option R) (Jret : Int × Unit → List LV → Option R) :
    rounds (G.action_checkOutputs.b0 k J0 Jret) k (l.map .str, l.map .str, (l.length : Int), (0 : Int), ()) S = ((firstE (outS l) l.length).map fun n => Jret (n, ()) S).getD (J0 (l.map .str, ()) S) := by
  have hk' := hk
  unfold Many at hk'
  unfold firstE
  rw [← scan_firstE]
  refine rounds_scan0 (fun i => (l.map LV.str, l.map LV.str, (l.length : Int), (i : Int), ())) S l.length k _ _ (fun rec i hi => ?_) (fun rec => ?_) (by omega)
  · unfold G.action_checkOutputs.b0
    dsimp only
    have hi2 : i < (l.map LV.str).length := by simpa using hi
    rw [lt_nat, ifB_pos hi]
    simp only [idxL_nat hi2, map_str_get l i hi, asLeaf_str, prog_IsPath hk, wrap_succ (show i < 9223372036854775807 by omega), out_prev l i hi (by omega)]
    unfold outS
    generalize (decide (0 < i) && (strLt (l.getD i (bs [])) (l.getD (i - 1) (bs [])) || strEq (l.getD i (bs [])) (l.getD (i - 1) (bs [])))) = b2
    cases isPathS (l.getD i (bs [])) <;> cases b2 <;> rfl
  · unfold G.action_checkOutputs.b0
    dsimp only
    rw [lt_nat, ifB_neg (Nat.lt_irrefl _)]
theorem prog_under {k : Nat} (hk : Many k) (l : List ByteArray) (hl : l.length ≤ 100) (hs : ∀ w ∈ l, w.size ≤ 140737488355328) (p : ByteArray) (id : Nat) (S : List LV) (hS : S.getD id .any = .obj 9 [.str p]) (K : Bool × Unit → List LV → Option R) :
    G.slices_ContainsFunc_s_string_string_at_action_checkOutputs_1.fn k (l.map .str, ((id, 0), ()), ()) S K = K (underS l p, ()) S := by
  have hk' := hk
  unfold Many at hk'
  unfold G.slices_ContainsFunc_s_string_string_at_action_checkOutputs_1.fn G.slices_IndexFunc_s_string_string_at_action_checkOutputs_1.fn
  dsimp only
  rw [List.length_map]
  have h := rounds_scan0 (b := G.slices_IndexFunc_s_string_string_at_action_checkOutputs_1.b0 k (fun (_ : Unit) S => K (decide ((-1 : Int) ≥ 0), ()) S) (fun (o5 : Int × Unit) S => K (decide (o5.1 ≥ 0), ()) S)) (fun i => (l.map LV.str, ((id, 0), ()), (l.length : Int), (i : Int), ())) S l.length k (fun i => cond (liesS p (l.getD i (bs []))) (some (K (true, ()) S)) none) (K (false, ()) S) (fun rec i hi => ?_) (fun rec => ?_) (by omega)
  · refine Eq.trans h ?_
    rw [scan_first0 (bs []) (fun q => liesS p q)]
    unfold underS
    cases l.any fun q => liesS p q <;> rfl
  · unfold G.slices_IndexFunc_s_string_string_at_action_checkOutputs_1.b0 G.action_checkOutputs_1.fn
    dsimp only
    have hi2 : i < (l.map LV.str).length := by simpa using hi
    have hld : ∀ K : ByteArray → Option R, ldStr [LV.str p] 0 K = K p := fun _ => rfl
    rw [lt_nat, ifB_pos hi]
    simp only [idxL_nat hi2, map_str_get l i hi, asLeaf_str, at_of hS, hld, prog_Within k _ _ (get_size hs i hi), wrap_succ (show i < 9223372036854775807 by omega)]
    have e : decide ((i : Int) ≥ 0) = true := decide_eq_true (by omega)
    cases liesS p (l.getD i (bs [])) with
    | false => rfl
    | true =>
      show K (decide ((i : Int) ≥ 0), ()) S = K (true, ()) S
      rw [e]
  · unfold G.slices_IndexFunc_s_string_string_at_action_checkOutputs_1.b0
    dsimp only
    rw [lt_nat, ifB_neg (Nat.lt_irrefl _)]
    rfl
/-- The variables that the program's loop makes. -/
def boxes (l : List ByteArray) (i : Nat) : List LV := (l.take i).map fun p => LV.obj 9 [.str p]
theorem boxes_succ (l : List ByteArray) (i : Nat) (hi : i < l.length) : boxes l (i + 1) = boxes l i ++ [.obj 9 [.str (l.getD i (bs []))]] := by
  unfold boxes
  rw [List.take_succ_eq_append_getElem hi, List.map_append, List.getD_eq_getElem?_getD, List.getElem?_eq_getElem hi]; rfl
theorem set_last (S : List LV) (a b : LV) : (S ++ [a]).set S.length b = S ++ [b] := by simp
theorem get_last (S : List LV) (a : LV) : (S ++ [a]).getD S.length .any = a := by simp [List.getD_eq_getElem?_getD]
theorem prog_checkOutputs0 {k : Nat} (hk : Many k) (l : List ByteArray) (hs : ∀ w ∈ l, w.size ≤ 140737488355328) (S : List LV) : ∃ X, ∀ K : Int × Unit → List LV → Option R, G.action_checkOutputs.fn0 k (l.map .str, ()) S K = K (outsS l, ()) (S ++ X) := by
  have hk' := hk
  unfold Many at hk'
  unfold G.action_checkOutputs.fn0 outsS
  dsimp only
  rw [List.length_map, eq0_nat, show decide ((l.length : Int) > 100) = decide (l.length > 100) from gt_nat _ 100]
  cases decide (l.length = 0) with
  | true => exact ⟨[], fun K => by rw [List.append_nil]; rfl⟩
  | false =>
    cases hc : decide (l.length > 100) with
    | true => exact ⟨[], fun K => by rw [List.append_nil]; rfl⟩
    | false =>
      have hlen : l.length ≤ 100 := by have := of_decide_eq_false hc; omega
      simp only [ifB_false, prog_outs1 hk l hlen, cond_false]
      cases firstE (outS l) l.length with
      | some e => exact ⟨[], fun K => by rw [List.append_nil]; rfl⟩
      | none =>
        have h := fun (K : Int × Unit → List LV → Option R) => rounds_scan (b := G.action_checkOutputs.b1 k (fun (_ : Unit) S => K (0, ()) S) (fun (o : Int × Unit) S => K (o.1, ()) S)) (fun i => (l.map LV.str, l.map LV.str, (l.length : Int), (i : Int), ())) (fun i => S ++ boxes l i) l.length (fun i => cond (underS l (l.getD i (bs []))) (some (K (12, ()) (S ++ boxes l (i + 1)))) none) (K (0, ()) (S ++ boxes l l.length)) (fun rec i hi => ?_) (fun rec => ?_) l.length 0 k (by omega) (by omega)
        · have hs2 : ∀ (d i : Nat), ∃ X, ∀ K : Int × Unit → List LV → Option R, scan (fun i => cond (underS l (l.getD i (bs []))) (some (K (12, ()) (S ++ boxes l (i + 1)))) none) (K (0, ()) (S ++ boxes l l.length)) d i = K (scan (fun i => cond (underS l (l.getD i (bs []))) (some 12) none) 0 d i, ()) (S ++ X) := fun d => by
            induction d with
            | zero => exact fun i => ⟨_, fun K => rfl⟩
            | succ d ih =>
              intro i
              simp only [scan]
              cases underS l (l.getD i (bs [])) with
              | true => exact ⟨_, fun K => rfl⟩
              | false => exact ih (i + 1)
          obtain ⟨X, hX⟩ := hs2 l.length 0
          refine ⟨X, fun K => ?_⟩
          show rounds (G.action_checkOutputs.b1 k _ _) k (l.map LV.str, l.map LV.str, (((l.map LV.str).length : Nat) : Int), (0 : Int), ()) S = _
          rw [List.length_map]
          have h1 := h K
          have h0 : S ++ boxes l 0 = S := by unfold boxes; simp
          rw [h0] at h1
          refine Eq.trans h1 (Eq.trans (hX K) ?_)
          rw [scan_first0 (bs []) (underS l)]
          rfl
        · unfold G.action_checkOutputs.b1
          dsimp only
          have hi2 : i < (l.map LV.str).length := by simpa using hi
          have hbox : (S ++ boxes l i ++ [LV.obj 9 [.str (bs [])]]).getD (S ++ boxes l i).length .any = .obj 9 [.str (bs [])] := get_last _ _
          have hbox2 : (S ++ boxes l i ++ [LV.obj 9 [.str (l.getD i (bs []))]]).getD (S ++ boxes l i).length .any = .obj 9 [.str (l.getD i (bs []))] := get_last _ _
          have hst : ∀ K : List LV → Option R, stO [LV.str (bs [])] 0 [.str (l.getD i (bs []))] K = K [.str (l.getD i (bs []))] := fun _ => rfl
          rw [lt_nat, ifB_pos hi, idxL_nat hi2, map_str_get l i hi, asLeaf_str]
          unfold newObj
          simp only [at_of hbox, hst, setS_of, set_last, prog_under hk l hlen hs _ _ _ hbox2, wrap_succ (show i < 9223372036854775807 by omega)]
          rw [boxes_succ l i hi, List.append_assoc]
          cases underS l (l.getD i (bs [])) <;> rfl
        · unfold G.action_checkOutputs.b1
          dsimp only
          rw [lt_nat, ifB_neg (Nat.lt_irrefl _)]
theorem prog_checkOutputs {k : Nat} (hk : Many k) (l : List ByteArray) (hs : ∀ w ∈ l, w.size ≤ 140737488355328) (S : List LV) (K : Int × Unit → List LV → Option R) : G.action_checkOutputs.fn k (l.map .str, ()) S K = K (outsS l, ()) S := by
  obtain ⟨X, h⟩ := prog_checkOutputs0 (R := LV × List LV) hk l hs S
  exact popK_at (h _) rfl
/-! ### an action -/
structure Act where
  tool : ByteArray
  cmds : List (List ByteArray)
  vars : List AVar
  outs : List ByteArray
  needs : List AVar
  time : Int
def cmdL (c : List ByteArray) : LV := .sl 1 (c.map .str)
abbrev ActT := ByteArray × List LV × List LV × List LV × List LV × Int × Unit
def Act.tup (a : Act) : ActT := (a.tool, a.cmds.map cmdL, a.vars.map varL, a.outs.map .str, a.needs.map varL, a.time, ())
structure ActOk (a : Act) : Prop where
  tool : a.tool.size ≤ 140737488355328
  cmds : ∀ c ∈ a.cmds, ∀ w ∈ c, w.size ≤ 140737488355328
  vars : ∀ x ∈ a.vars, x.1.size ≤ 140737488355328
  outs : ∀ w ∈ a.outs, w.size ≤ 140737488355328
  needs : ∀ x ∈ a.needs, x.1.size ≤ 140737488355328
/-- How many lines an action's lists have at most. -/
structure ActLen (a : Act) (n : Nat) : Prop where
  cmds : a.cmds.length ≤ n
  vars : a.vars.length ≤ n
  outs : a.outs.length ≤ n
  needs : a.needs.length ≤ n
def zT : ActT := (bs [], [], [], [], [], 0, ())
def cmdAt (l : List (List ByteArray)) (i : Nat) : Option Int := cond (cmdS (l.getD i []) == 0) none (some (cmdS (l.getD i [])))
def actS (a : Act) : Int := cond (isDigestS a.tool) (cond (decide (a.cmds.length = 0)) 9 (cond (decide (a.cmds.length > 50)) 2 ((firstE (cmdAt a.cmds) a.cmds.length).getD
  (cond (varsS a.vars == 0) (cond (outsS a.outs == 0) (cond (varsS a.needs == 0) (cond (decide (1 ≤ a.time) && decide (a.time ≤ 100000)) 0 1) (varsS a.needs)) (outsS a.outs)) (varsS a.vars))))) 3
theorem cmd_get (l : List (List ByteArray)) (i : Nat) (h : i < l.length) : (l.map cmdL).getD i .any = cmdL (l.getD i []) := by simp [List.getD_eq_getElem?_getD, h]
theorem cmdL_at (c : List ByteArray) (K : List LV → Option R) : asSl 1 (leaf (cmdL c) 0) K = K (c.map .str) := asSl_sl 1 _ K
theorem ne0 (n : Int) : (n != 0) = !(n == 0) := rfl
theorem ref_CheckAction {k : Nat} (hk : Many k) (a : Act) (ok : ActOk a) (S : List LV) (K : Int × Unit → List LV → Option R) : G.smithyardref5_CheckAction.fn k (a.tup, ()) S K = K (actS a, ()) S := by
  have hk' := hk
  unfold Many at hk'
  unfold G.smithyardref5_CheckAction.fn actS Act.tup
  dsimp only
  rw [ref_IsDigest hk _ ok.tool]
  dsimp only
  cases isDigestS a.tool with
  | false => rfl
  | true =>
    rw [Bool.not_true, ifB_false, cond_true, List.length_map, eq0_nat, show decide ((a.cmds.length : Int) > 50) = decide (a.cmds.length > 50) from gt_nat _ 50]
    cases decide (a.cmds.length = 0) with
    | true => rfl
    | false =>
      cases hc : decide (a.cmds.length > 50) with
      | true => rfl
      | false =>
        have hlen : a.cmds.length ≤ 50 := by have := of_decide_eq_false hc; omega
        rw [ifB_false, ifB_false, cond_false, cond_false]
        refine Eq.trans (rounds_scan0 (fun i => (a.tup, (i : Int), ())) S a.cmds.length k (fun i => (cmdAt a.cmds i).map fun e => K (e, ()) S) (K ((cond (varsS a.vars == 0) (cond (outsS a.outs == 0) (cond (varsS a.needs == 0) (cond (decide (1 ≤ a.time) && decide (a.time ≤ 100000)) 0 1) (varsS a.needs)) (outsS a.outs)) (varsS a.vars)), ()) S) (fun rec i hi => ?_) (fun rec => ?_) (by omega)) ?_
        · unfold G.smithyardref5_CheckAction.b0 Act.tup
          dsimp only
          have hi2 : i < (a.cmds.map cmdL).length := by simpa using hi
          rw [List.length_map, lt_nat, ifB_pos hi, idxL_nat hi2, cmd_get _ _ hi, cmdL_at, ref_checkCommand hk _ (ok.cmds _ (mem_get hi)), wrap_succ (by omega)]
          dsimp only
          unfold cmdAt
          rw [ne0]
          cases cmdS (a.cmds.getD i []) == 0 <;> rfl
        · unfold G.smithyardref5_CheckAction.b0 Act.tup
          dsimp only
          rw [List.length_map, lt_nat, ifB_neg (Nat.lt_irrefl _)]
          simp only [ref_checkVars hk _ ok.vars, ref_checkVars hk _ ok.needs, ref_checkOutputs hk _ ok.outs, ref5_within, ne0]
          cases varsS a.vars == 0 with
          | false => rfl
          | true =>
            cases outsS a.outs == 0 with
            | false => rfl
            | true =>
              cases varsS a.needs == 0 with
              | false => rfl
              | true => cases decide (1 ≤ a.time) && decide (a.time ≤ 100000) <;> rfl
        · rw [scan_firstE]
          unfold firstE
          cases scan (fun j => (cmdAt a.cmds j).map some) none a.cmds.length 0 <;> rfl
theorem prog_CheckAction {k : Nat} (hk : Many k) (a : Act) (ok : ActOk a) (S : List LV) (K : Int × Unit → List LV → Option R) : G.action_CheckAction.fn k (a.tup, ()) S K = K (actS a, ()) S := by
  have hk' := hk
  unfold Many at hk'
  unfold G.action_CheckAction.fn actS Act.tup
  dsimp only
  rw [prog_IsDigest (k := k)]
  dsimp only
  cases isDigestS a.tool with
  | false => rfl
  | true =>
    rw [Bool.not_true, ifB_false, cond_true, List.length_map, eq0_nat, show decide ((a.cmds.length : Int) > 50) = decide (a.cmds.length > 50) from gt_nat _ 50]
    cases decide (a.cmds.length = 0) with
    | true => rfl
    | false =>
      cases hc : decide (a.cmds.length > 50) with
      | true => rfl
      | false =>
        have hlen : a.cmds.length ≤ 50 := by have := of_decide_eq_false hc; omega
        rw [ifB_false, ifB_false, cond_false, cond_false]
        refine Eq.trans (rounds_scan0 (fun i => (a.tup, a.cmds.map cmdL, (a.cmds.length : Int), (i : Int), ())) S a.cmds.length k (fun i => (cmdAt a.cmds i).map fun e => K (e, ()) S) (K ((cond (varsS a.vars == 0) (cond (outsS a.outs == 0) (cond (varsS a.needs == 0) (cond (decide (1 ≤ a.time) && decide (a.time ≤ 100000)) 0 1) (varsS a.needs)) (outsS a.outs)) (varsS a.vars)), ()) S) (fun rec i hi => ?_) (fun rec => ?_) (by omega)) ?_
        · unfold G.action_CheckAction.b0 Act.tup
          dsimp only
          have hi2 : i < (a.cmds.map cmdL).length := by simpa using hi
          rw [lt_nat, ifB_pos hi, idxL_nat hi2, cmd_get _ _ hi, cmdL_at, prog_checkCommand hk _ (ok.cmds _ (mem_get hi)), wrap_succ (by omega)]
          dsimp only
          unfold cmdAt
          rw [ne0]
          cases cmdS (a.cmds.getD i []) == 0 <;> rfl
        · unfold G.action_CheckAction.b0 Act.tup
          dsimp only
          rw [lt_nat, ifB_neg (Nat.lt_irrefl _)]
          simp only [prog_checkVars hk, prog_checkOutputs hk _ ok.outs, ne0]
          cases varsS a.vars == 0 with
          | false => rfl
          | true =>
            cases outsS a.outs == 0 with
            | false => rfl
            | true =>
              cases varsS a.needs == 0 with
              | false => rfl
              | true =>
                by_cases h1 : 1 ≤ a.time
                · by_cases h2 : a.time ≤ 100000
                  · simp only [h1, h2, show ¬ a.time < 1 by omega, show ¬ a.time > 100000 by omega, decide_true, decide_false]; rfl
                  · simp only [h1, h2, show ¬ a.time < 1 by omega, show a.time > 100000 by omega, decide_true, decide_false]; rfl
                · simp only [h1, show a.time < 1 by omega, decide_true, decide_false]; rfl
        · rw [scan_firstE]
          unfold firstE
          cases scan (fun j => (cmdAt a.cmds j).map some) none a.cmds.length 0 <;> rfl
end
end Go.Lm
