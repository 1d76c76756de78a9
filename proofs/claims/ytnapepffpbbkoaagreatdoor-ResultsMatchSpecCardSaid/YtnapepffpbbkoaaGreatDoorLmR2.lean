/- Texts: the program's and the reference's test answer alike. -/
import Derived.Test.YtnapepffpbbkoaaGreatDoorLmR
import Derived.Laws.RangeString
import Derived.Laws.RangeAny
set_option maxRecDepth 100000
namespace Go.Lm
section
variable {R : Type}
def okB (c : Int) : Bool := (c == 10) || (decide (c ≥ 32) && decide (c ≤ 126))
def isTextS (s : ByteArray) : Bool := scan (fun i => match okB (bt s i) with | true => none | false => some false) (strEq s (bs []) || (bt s ((s.size - 1 : Nat) : Int) == 10)) s.size 0
theorem ref_isText {k : Nat} (hk : Many k) (s : ByteArray) (hs : s.size ≤ 140737488355328) (S : List LV) (K : Bool × Unit → List LV → Option R) : G.smithyardref5_isText.fn k (s, ()) S K = K (isTextS s, ()) S := by
  unfold Many at hk
  unfold G.smithyardref5_isText.fn isTextS
  dsimp only
  rw [← scan_map (fun b => K (b, ()) S)]
  refine rounds_scan0 (fun i => (s, (i : Int), ())) S s.size k _ _ (fun rec i hi => ?_) (fun rec => ?_) (by omega)
  · unfold G.smithyardref5_isText.b0
    dsimp only
    rw [lt_nat, ifB_pos hi, idxStr_nat hi]
    unfold G.smithyardref5_isText.q0
    dsimp only
    rw [idxStr_nat hi, idxStr_nat hi, wrap_succ (by omega)]
    unfold okB
    have e1 : (bt s (i : Int) != 10) = !(bt s (i : Int) == 10) := rfl
    rw [e1]
    cases (bt s (i : Int) == 10) with
    | true => rfl
    | false =>
      by_cases h1 : bt s (i : Int) < 32
      · have h2 : ¬ (bt s (i : Int) ≥ 32) := by omega
        simp [h1, h2]
      · have h2 : bt s (i : Int) ≥ 32 := by omega
        by_cases h3 : bt s (i : Int) > 126
        · have h4 : ¬ (bt s (i : Int) ≤ 126) := by omega
          simp [h1, h2, h3, h4]
        · have h4 : bt s (i : Int) ≤ 126 := by omega
          simp [h1, h2, h3, h4]
  · unfold G.smithyardref5_isText.b0
    dsimp only
    rw [lt_nat, ifB_neg (Nat.lt_irrefl _)]
    cases he : strEq s (bs []) with
    | true => rfl
    | false =>
      have h0 : 0 < s.size := by
        rcases Nat.eq_zero_or_pos s.size with h | h
        · have : s = bs [] := ba_ext (by
            have : s.data.toList.length = 0 := by rw [ba_len]; exact h
            rw [List.eq_nil_of_length_eq_zero this]; rfl)
          rw [(strEq_iff _ _).2 this] at he; cases he
        · exact h
      rw [ifB_false, wrap_pred h0 (by omega), idxStr_nat (by omega), Bool.false_or]

theorem pred_bad (k x : Nat) : predA (G.action_CheckResult_1.h (R := Bool) k) x = some (!(okB (x : Int))) := by
  show (G.action_CheckResult_1.fn k ((x : Int), ()) [] fun r S => (match resE G.action_CheckResult_1.rs r with | .bool b => some b | _ => none) : Option Bool) = _
  unfold G.action_CheckResult_1.fn okB
  dsimp only
  have e1 : ((x : Int) != 10) = !((x : Int) == 10) := rfl
  rw [e1]
  cases ((x : Int) == 10) with
  | true => rfl
  | false =>
    by_cases h1 : (x : Int) < 32
    · have h2 : ¬ ((x : Int) ≥ 32) := by omega
      rw [Bool.not_false, ifB_true, ifB_pos h1]
      simp only [h2, decide_false, Bool.false_and, Bool.or_false]
      rfl
    · have h2 : (x : Int) ≥ 32 := by omega
      rw [Bool.not_false, ifB_true, ifB_neg h1]
      by_cases h3 : (x : Int) > 126
      · have h4 : ¬ ((x : Int) ≤ 126) := by omega
        simp only [h3, h4, decide_false, decide_true, Bool.and_false, Bool.or_false]
        rfl
      · have h4 : (x : Int) ≤ 126 := by omega
        simp only [h2, h3, h4, decide_false, decide_true, Bool.and_true, Bool.or_true]
        rfl
theorem idx_bad {p : Nat → Bool} (hp : ∀ x, x ≤ 1114111 → p x = !(okB (x : Int))) (s : ByteArray) : ∀ (f pos : Nat), s.size ≤ pos + f → decide (Lib.idxFuncFrom p true s f pos ≥ 0) = scan (fun i => match okB (bt s i) with | true => none | false => some true) false (s.size - pos) pos
  | 0, pos, h => by
    have : s.size - pos = 0 := by omega
    rw [this]; rfl
  | f + 1, pos, h => by
    unfold Lib.idxFuncFrom
    by_cases hps : pos < s.size
    · obtain ⟨d, hd⟩ : ∃ d, s.size - pos = d + 1 := ⟨s.size - pos - 1, by omega⟩
      rw [if_pos hps, hd]
      simp only [scan]
      rw [hp _ (Lib.rune_le s pos)]
      have hb := bt_nat hps
      rcases Nat.lt_or_ge (s[pos]'hps).toNat 128 with h1 | h1
      · rw [decode_ascii s pos hps h1, ← hb]
        cases ho : okB (bt s pos) with
        | true =>
          have ih := idx_bad hp s f (pos + 1) (by omega)
          have : s.size - (pos + 1) = d := by omega
          rw [this] at ih
          simpa using ih
        | false => simp
      · obtain ⟨h2, _⟩ := decode_high s pos hps h1
        have h3 : okB (((Utf8.decode s pos).1 : Nat) : Int) = false := by
          unfold okB
          have e1 : ¬ ((((Utf8.decode s pos).1 : Nat) : Int) ≤ 126) := by omega
          have e2 : ((((Utf8.decode s pos).1 : Nat) : Int) == 10) = false := by simp; omega
          rw [e2]; simp only [e1, decide_false, Bool.and_false, Bool.or_false]
        have h4 : okB (bt s pos) = false := by
          rw [hb]
          unfold okB
          have e1 : ¬ (((s[pos]'hps).toNat : Int) ≤ 126) := by omega
          have e2 : (((s[pos]'hps).toNat : Int) == 10) = false := by simp; omega
          rw [e2]; simp only [e1, decide_false, Bool.and_false, Bool.or_false]
        rw [h3, h4]
        simp
    · have : s.size - pos = 0 := by omega
      rw [if_neg hps, this]; rfl
def badB (s : ByteArray) : Bool := scan (fun i => match okB (bt s i) with | true => none | false => some true) false s.size 0
theorem prog_ContainsFunc (k : Nat) (s : ByteArray) (S : List LV) (K : Bool × Unit → List LV → Option R) : G.strings_ContainsFunc_at_action_CheckResult_1.fn k (s, (), ()) S K = K (badB s, ()) S := by
  unfold G.strings_ContainsFunc_at_action_CheckResult_1.fn G.strings_IndexFunc_at_action_CheckResult_1.fn H.indexFunc_at_action_CheckResult_1.fn H.indexFunc.fn handF idxFF
  dsimp only
  have hok : H.indexFuncOk (G.action_CheckResult_1.h (R := Bool) k) := fun x _ => by rw [pred_bad]; simp
  rw [show (Classical.propDecidable (H.indexFuncOk (G.action_CheckResult_1.h (R := Bool) k))).decide = true from @decide_eq_true _ (Classical.propDecidable _) hok]
  dsimp only
  have h := idx_bad (p := fun x => (predA (G.action_CheckResult_1.h (R := Bool) k) x).getD false) (fun x _ => by simp only [pred_bad]; rfl) s s.size 0 (by omega)
  rw [Nat.sub_zero] at h
  unfold badB
  rw [← h]
  rfl
end
end Go.Lm
