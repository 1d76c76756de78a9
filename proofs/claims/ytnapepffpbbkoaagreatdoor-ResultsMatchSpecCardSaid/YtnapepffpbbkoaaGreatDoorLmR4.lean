/- What is wrong with a result: the program's function. -/
import Derived.Test.YtnapepffpbbkoaaGreatDoorLmR3
set_option maxRecDepth 100000
namespace Go.Lm
section
variable {R : Type}
def midS (x : Res) (b : Bool) (Jn Jr : Int → Option R) : Option R := match b with
  | true => Jr 1
  | false => match decide (x.text.size > 100000) with
    | true => Jr 2
    | false => match isTextS x.text with
      | false => Jr 3
      | true => Jn 0
theorem q0_at (k : Nat) (x : Res) (ok : ResOk x) (b : Bool) (S : List LV) (Jn : (Int × ByteArray × List LV × List LV × Int × Unit) × Unit → List LV → Option R) (Jr : Int × Unit → List LV → Option R) :
    G.action_CheckResult.q0 k Jn Jr (x.tup, b, ()) S = midS x b (fun _ => Jn (x.tup, ()) S) (fun n => Jr (n, ()) S) := by
  unfold G.action_CheckResult.q0 midS
  dsimp only
  cases b with
  | true => rfl
  | false =>
    have e1 : decide ((x.text.size : Int) > (100000 : Int)) = decide (x.text.size > 100000) := gt_nat _ 100000
    rw [ifB_false, e1]
    cases decide (x.text.size > 100000) with
    | true => rfl
    | false =>
      rw [ifB_false, prog_ContainsFunc, text_bad]
      dsimp only
      cases badB x.text with
      | true => rfl
      | false =>
        rw [ifB_false, Bool.not_false, Bool.true_and]
        cases he : strEq x.text (bs []) with
        | true => rfl
        | false =>
          have h0 : 0 < x.text.size := by
            rcases Nat.eq_zero_or_pos x.text.size with h | h
            · have : x.text = bs [] := ba_ext (by
                have : x.text.data.toList.length = 0 := by rw [ba_len]; exact h
                rw [List.eq_nil_of_length_eq_zero this]; rfl)
              rw [(strEq_iff _ _).2 this] at he; cases he
            · exact h
          rw [Bool.not_false, ifB_true, prog_HasSuffix k _ ok.t h0, Bool.false_or]
          dsimp only
          cases (bt x.text ((x.text.size - 1 : Nat) : Int) == 10) <;> rfl
theorem q2_at {k : Nat} (hk : Many k) (x : Res) (ok : ResOk x) (S : List LV) (Jr : Int × Unit → List LV → Option R) : G.action_CheckResult.q2 k Jr (x.tup, ()) S = Jr (tailS x, ()) S := by
  unfold G.action_CheckResult.q2 tailS
  dsimp only
  rw [prog_CheckFiles hk _ ok.f]
  unfold G.action_CheckResult.q3
  dsimp only
  have h0 : ∀ n : Int, (n != 0) = !(n == 0) := fun n => rfl
  rw [h0]
  cases hc : checkFilesS x.files == 0 with
  | false => rfl
  | true =>
    rw [Bool.not_true, ifB_false]
    unfold G.action_CheckResult.q4 G.action_CheckResult.q1
    dsimp only
    have e2 : decide (((x.files.map File.lv).length : Int) > (0 : Int)) = decide (x.files.length > 0) := by rw [List.length_map]; exact gt_nat _ 0
    rw [e2, prog_CheckLooks hk]
    cases decide (x.files.length > 0) <;> cases (x.code != 0) <;> rfl
theorem prog_CheckResult {k : Nat} (hk : Many k) (x : Res) (ok : ResOk x) (S : List LV) (K : Int × Unit → List LV → Option R) : G.action_CheckResult.fn k (x.tup, ()) S K = K (checkResS x, ()) S := by
  unfold G.action_CheckResult.fn
  dsimp only
  simp only [q0_at k x ok, q2_at hk x ok]
  unfold checkResS withinB
  by_cases h1 : x.code < 0
  · have h2 : ¬ (x.code ≥ 0) := by omega
    rw [ifB_pos h1]
    simp only [h2, decide_false, Bool.false_and]
    rfl
  · have h2 : x.code ≥ 0 := by omega
    rw [ifB_neg h1]
    by_cases h3 : x.code > 999999
    · have h4 : ¬ (x.code ≤ 999999) := by omega
      rw [ifB_pos h3]
      simp only [h4, decide_false, Bool.and_false, Bool.false_and]
      rfl
    · have h4 : x.code ≤ 999999 := by omega
      rw [ifB_neg h3]
      by_cases h5 : x.cmd < 0
      · have h6 : ¬ (x.cmd ≥ 0) := by omega
        rw [ifB_pos h5]
        simp only [h6, decide_false, Bool.false_and, Bool.and_false]
        rfl
      · have h6 : x.cmd ≥ 0 := by omega
        rw [ifB_neg h5]
        by_cases h7 : x.cmd > 50
        · have h8 : ¬ (x.cmd ≤ 50) := by omega
          simp only [h2, h4, h6, h7, h8, decide_false, decide_true, Bool.and_false, Bool.and_true]
          rfl
        · have h8 : x.cmd ≤ 50 := by omega
          simp only [h2, h4, h6, h7, h8, decide_false, decide_true, Bool.and_true, midS]
          cases decide (x.text.size > 100000) with
          | true => rfl
          | false => cases isTextS x.text <;> rfl
end
end Go.Lm
