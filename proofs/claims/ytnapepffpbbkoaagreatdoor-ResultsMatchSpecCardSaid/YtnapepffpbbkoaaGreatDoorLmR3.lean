/- What is wrong with a result: the program's and the reference's functions answer alike. -/
import Derived.Test.YtnapepffpbbkoaaGreatDoorLmR2
set_option maxRecDepth 100000
namespace Go.Lm
section
variable {R : Type}
structure Res where
  code : Int
  text : ByteArray
  files : List File
  looks : List Look
  cmd : Int
abbrev Res.tup (x : Res) : Int × ByteArray × List LV × List LV × Int × Unit := (x.code, x.text, x.files.map File.lv, x.looks.map Look.lv, x.cmd, ())
def tailS (x : Res) : Int := match checkFilesS x.files == 0 with
  | false => checkFilesS x.files
  | true => match decide (x.files.length > 0) && (x.code != 0) with
    | true => 3
    | false => checkLooksS x.looks
def checkResS (x : Res) : Int := match withinB x.code 0 999999 && withinB x.cmd 0 50 with
  | false => 1
  | true => match decide (x.text.size > 100000) with
    | true => 2
    | false => match isTextS x.text with
      | false => 3
      | true => tailS x
structure ResOk (x : Res) : Prop where
  t : x.text.size ≤ 140737488355328
  f : FilesOk x.files
  d : ∀ y ∈ x.looks, y.d.size ≤ 140737488355328
theorem ref_CheckResult {k : Nat} (hk : Many k) (x : Res) (ok : ResOk x) (S : List LV) (K : Int × Unit → List LV → Option R) : G.smithyardref5_CheckResult.fn k (x.tup, ()) S K = K (checkResS x, ()) S := by
  unfold G.smithyardref5_CheckResult.fn checkResS
  dsimp only
  rw [ref_within5]
  dsimp only
  cases withinB x.code 0 999999 with
  | false => rfl
  | true =>
    rw [Bool.not_true, ifB_false, ref_within5]
    dsimp only
    cases withinB x.cmd 0 50 with
    | false => rfl
    | true =>
      rw [Bool.not_true, ifB_false]
      have e1 : decide ((x.text.size : Int) > (100000 : Int)) = decide (x.text.size > 100000) := gt_nat _ 100000
      rw [e1]
      cases decide (x.text.size > 100000) with
      | true => rfl
      | false =>
        rw [ifB_false, ref_isText hk _ ok.t]
        dsimp only
        cases isTextS x.text with
        | false => rfl
        | true =>
          rw [Bool.not_true, ifB_false, ref_CheckFiles hk _ ok.f]
          dsimp only
          unfold tailS
          have h0 : ∀ n : Int, (n != 0) = !(n == 0) := fun n => rfl
          rw [h0]
          cases hc : checkFilesS x.files == 0 with
          | false => rfl
          | true =>
            rw [Bool.not_true, ifB_false]
            unfold G.smithyardref5_CheckResult.q0 G.smithyardref5_CheckResult.q1
            dsimp only
            have e2 : decide (((x.files.map File.lv).length : Int) > (0 : Int)) = decide (x.files.length > 0) := by rw [List.length_map]; exact gt_nat _ 0
            rw [e2, ref_CheckLooks hk _ ok.d]
            cases decide (x.files.length > 0) <;> cases (x.code != 0) <;> rfl
theorem prog_HasSuffix (k : Nat) (s : ByteArray) (hs : s.size ≤ 140737488355328) (h0 : 0 < s.size) (S : List LV) (K : Bool × Unit → List LV → Option R) : G.strings_HasSuffix.fn k (s, bs [10], ()) S K = K (bt s ((s.size - 1 : Nat) : Int) == 10, ()) S := by
  unfold G.strings_HasSuffix.fn G.internal_stringslite_HasSuffix.fn
  dsimp only
  have e1 : ((bs [10]).size : Int) = 1 := rfl
  rw [e1, ifB_pos (by omega), wrap_pred h0 (by omega)]
  unfold slStr
  rw [ifB_pos ⟨by omega, by omega, by omega⟩]
  have e2 : strEq (s.extract ((s.size - 1 : Nat) : Int).toNat ((s.size : Int)).toNat) (bs [10]) = (bt s ((s.size - 1 : Nat) : Int) == 10) := by
    have hlt : s.size - 1 < s.size := by omega
    have e3 : s.extract (s.size - 1) s.size = ⟨#[s[s.size - 1]'hlt]⟩ := by
      apply ba_ext
      apply List.ext_getElem?
      intro i
      have hd : s.data.size = s.size := rfl
      simp only [ByteArray.data_extract, Array.toList_extract, List.extract_eq_take_drop]
      rcases Nat.eq_zero_or_pos i with rfl | hi
      · rw [List.getElem?_take_of_lt (by omega), List.getElem?_drop]
        simp [hd, hlt]
        rfl
      · rw [List.getElem?_eq_none (by simp; omega), List.getElem?_eq_none (by simp; omega)]
    rw [Int.toNat_natCast, Int.toNat_natCast, e3, bt_nat hlt, Bool.eq_iff_iff, strEq_iff, beq_iff_eq]
    constructor
    · intro h
      have h2 : [s[s.size - 1]'hlt] = [(10 : UInt8)] := congrArg (fun b : ByteArray => b.data.toList) h
      have h3 : s[s.size - 1]'hlt = 10 := List.head_eq_of_cons_eq h2
      rw [h3]; rfl
    · intro h
      have h3 : s[s.size - 1]'hlt = 10 := by
        apply UInt8.toNat_inj.1
        have : (s[s.size - 1]'hlt).toNat = 10 := by omega
        rw [this]; rfl
      rw [h3]
      rfl
  show K (strEq _ _, ()) S = _
  rw [e2]
theorem text_bad (s : ByteArray) : isTextS s = (!(badB s) && (strEq s (bs []) || (bt s ((s.size - 1 : Nat) : Int) == 10))) := by
  unfold isTextS badB
  generalize (strEq s (bs []) || (bt s ((s.size - 1 : Nat) : Int) == 10)) = fin
  have : ∀ (d i : Nat), scan (fun i => match okB (bt s i) with | true => none | false => some false) fin d i = (!(scan (fun i => match okB (bt s i) with | true => none | false => some true) false d i) && fin) := by
    intro d
    induction d with
    | zero => intro i; simp [scan]
    | succ d ih =>
      intro i
      simp only [scan]
      cases okB (bt s i) with
      | true => exact ih _
      | false => rfl
  exact this _ _
end
end Go.Lm
