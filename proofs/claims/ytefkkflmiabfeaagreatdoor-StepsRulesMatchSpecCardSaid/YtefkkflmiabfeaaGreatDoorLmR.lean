/- Results: lines of looks, numbers within bounds. -/
import Derived.Test.YtefkkflmiabfeaaGreatDoorLmU
import Derived.Laws.RangeString
import Derived.Laws.RangeAny
set_option linter.unusedVariables false
set_option linter.unusedSimpArgs false
set_option maxRecDepth 100000
namespace Go.Lm
section
variable {R : Type}
def withinB (n a b : Int) : Bool := decide (n ≥ a) && decide (n ≤ b)
end
end Go.Lm

/- Texts: the program's and the reference's test answer alike. -/
set_option maxRecDepth 100000
namespace Go.Lm
section
variable {R : Type}
def okB (c : Int) : Bool := (c == 10) || (decide (c ≥ 32) && decide (c ≤ 126))
def isTextS (s : ByteArray) : Bool := scan (fun i => match okB (bt s i) with | true => none | false => some false) (strEq s (bs []) || (bt s ((s.size - 1 : Nat) : Int) == 10)) s.size 0
theorem pred_bad (k x : Nat) : predA ((G.action_CheckResult_1.en (R := Bool) k).h) x = some (!(okB (x : Int))) := by
  show (G.action_CheckResult_1.fn k ((x : Int), ()) [] fun r S => (match resE G.action_CheckResult_1.rs r with | .bool b => some b | _ => none) : Option Bool) = _
  unfold G.action_CheckResult_1.fn okB
  dsimp only
  have e1 : ((x : Int) != 10) = !((x : Int) == 10) := rfl
  rw [e1]
  cases ((x : Int) == 10) with
  | true => rfl
  | false =>
    by_cases h1 : (x : Int) < 32
    · have h2 : ¬ ((x : Int) ≥ 32) := by omega
      rw [Bool.not_false, ifB_true, ifB_pos h1]
      simp only [h2, decide_false, Bool.false_and, Bool.or_false]
      rfl
    · have h2 : (x : Int) ≥ 32 := by omega
      rw [Bool.not_false, ifB_true, ifB_neg h1]
      by_cases h3 : (x : Int) > 126
      · have h4 : ¬ ((x : Int) ≤ 126) := by omega
        simp only [h3, h4, decide_false, decide_true, Bool.and_false, Bool.or_false]
        rfl
      · have h4 : (x : Int) ≤ 126 := by omega
        simp only [h2, h3, h4, decide_false, decide_true, Bool.and_true, Bool.or_true]
        rfl
theorem idx_bad {p : Nat → Bool} (hp : ∀ x, x ≤ 1114111 → p x = !(okB (x : Int))) (s : ByteArray) : ∀ (f pos : Nat), s.size ≤ pos + f → decide (Lib.idxFuncFrom p true s f pos ≥ 0) = scan (fun i => match okB (bt s i) with | true => none | false => some true) false (s.size - pos) pos
  | 0, pos, h => by
    have : s.size - pos = 0 := by omega
    rw [this]; rfl
  | f + 1, pos, h => by
    unfold Lib.idxFuncFrom
    by_cases hps : pos < s.size
    · obtain ⟨d, hd⟩ : ∃ d, s.size - pos = d + 1 := ⟨s.size - pos - 1, by omega⟩
      rw [if_pos hps, hd]
      simp only [scan]
      rw [hp _ (Lib.rune_le s pos)]
      have hb := bt_nat hps
      rcases Nat.lt_or_ge (s[pos]'hps).toNat 128 with h1 | h1
      · rw [decode_ascii s pos hps h1, ← hb]
        cases ho : okB (bt s pos) with
        | true =>
          have ih := idx_bad hp s f (pos + 1) (by omega)
          have : s.size - (pos + 1) = d := by omega
          rw [this] at ih
          simpa using ih
        | false => simp
      · obtain ⟨h2, _⟩ := decode_high s pos hps h1
        have h3 : okB (((Utf8.decode s pos).1 : Nat) : Int) = false := by
          unfold okB
          have e1 : ¬ ((((Utf8.decode s pos).1 : Nat) : Int) ≤ 126) := by omega
          have e2 : ((((Utf8.decode s pos).1 : Nat) : Int) == 10) = false := by simp; omega
          rw [e2]; simp only [e1, decide_false, Bool.and_false, Bool.or_false]
        have h4 : okB (bt s pos) = false := by
          rw [hb]
          unfold okB
          have e1 : ¬ (((s[pos]'hps).toNat : Int) ≤ 126) := by omega
          have e2 : (((s[pos]'hps).toNat : Int) == 10) = false := by simp; omega
          rw [e2]; simp only [e1, decide_false, Bool.and_false, Bool.or_false]
        rw [h3, h4]
        simp
    · have : s.size - pos = 0 := by omega
      rw [if_neg hps, this]; rfl
def badB (s : ByteArray) : Bool := scan (fun i => match okB (bt s i) with | true => none | false => some true) false s.size 0
theorem prog_ContainsFunc (k : Nat) (s : ByteArray) (S : List LV) (K : Bool × Unit → List LV → Option R) : G.strings_ContainsFunc_at_action_CheckResult_1.fn k (s, (), ()) S K = K (badB s, ()) S := by
  unfold G.strings_ContainsFunc_at_action_CheckResult_1.fn G.strings_IndexFunc_at_action_CheckResult_1.fn H.indexFunc_at_action_CheckResult_1.fn H.indexFunc.fn handF idxFF
  dsimp only
  have hok : H.indexFuncOk ((G.action_CheckResult_1.en (R := Bool) k).h) := fun x _ => by rw [pred_bad]; simp
  rw [show (Classical.propDecidable (H.indexFuncOk ((G.action_CheckResult_1.en (R := Bool) k).h))).decide = true from @decide_eq_true _ (Classical.propDecidable _) hok]
  dsimp only
  have h := idx_bad (p := fun x => (predA ((G.action_CheckResult_1.en (R := Bool) k).h) x).getD false) (fun x _ => by simp only [pred_bad]; rfl) s s.size 0 (by omega)
  rw [Nat.sub_zero] at h
  unfold badB
  rw [← h]
  rfl
end
end Go.Lm

/- What is wrong with a result: the program's and the reference's functions answer alike. -/
set_option maxRecDepth 100000
namespace Go.Lm
section
variable {R : Type}
structure Res where
  code : Int
  text : ByteArray
  files : List File
  looks : List Look
  cmd : Int
abbrev Res.tup (x : Res) : Int × ByteArray × List LV × List LV × Int × Unit := (x.code, x.text, x.files.map File.lv, x.looks.map Look.lv, x.cmd, ())
def tailS (x : Res) : Int := match checkFilesS x.files == 0 with
  | false => checkFilesS x.files
  | true => match decide (x.files.length > 0) && (x.code != 0) with
    | true => 3
    | false => checkLooksS x.looks
def checkResS (x : Res) : Int := match withinB x.code 0 999999 && withinB x.cmd 0 50 with
  | false => 1
  | true => match decide (x.text.size > 100000) with
    | true => 2
    | false => match isTextS x.text with
      | false => 3
      | true => tailS x
structure ResOk (x : Res) : Prop where
  t : x.text.size ≤ 140737488355328
  f : FilesOk x.files
  d : ∀ y ∈ x.looks, y.d.size ≤ 140737488355328
theorem prog_HasSuffix (k : Nat) (s : ByteArray) (hs : s.size ≤ 140737488355328) (h0 : 0 < s.size) (S : List LV) (K : Bool × Unit → List LV → Option R) : G.strings_HasSuffix.fn k (s, bs [10], ()) S K = K (bt s ((s.size - 1 : Nat) : Int) == 10, ()) S := by
  unfold G.strings_HasSuffix.fn G.internal_stringslite_HasSuffix.fn
  dsimp only
  have e1 : ((bs [10]).size : Int) = 1 := rfl
  rw [e1, ifB_pos (by omega), wrap_pred h0 (by omega)]
  unfold slStr
  rw [ifB_pos ⟨by omega, by omega, by omega⟩]
  have e2 : strEq (s.extract ((s.size - 1 : Nat) : Int).toNat ((s.size : Int)).toNat) (bs [10]) = (bt s ((s.size - 1 : Nat) : Int) == 10) := by
    have hlt : s.size - 1 < s.size := by omega
    have e3 : s.extract (s.size - 1) s.size = ⟨#[s[s.size - 1]'hlt]⟩ := by
      apply ba_ext
      apply List.ext_getElem?
      intro i
      have hd : s.data.size = s.size := rfl
      simp only [ByteArray.data_extract, Array.toList_extract, List.extract_eq_take_drop]
      rcases Nat.eq_zero_or_pos i with rfl | hi
      · rw [List.getElem?_take_of_lt (by omega), List.getElem?_drop]
        simp [hd, hlt]
        rfl
      · rw [List.getElem?_eq_none (by simp; omega), List.getElem?_eq_none (by simp; omega)]
    rw [Int.toNat_natCast, Int.toNat_natCast, e3, bt_nat hlt, Bool.eq_iff_iff, strEq_iff, beq_iff_eq]
    constructor
    · intro h
      have h2 : [s[s.size - 1]'hlt] = [(10 : UInt8)] := congrArg (fun b : ByteArray => b.data.toList) h
      have h3 : s[s.size - 1]'hlt = 10 := List.head_eq_of_cons_eq h2
      rw [h3]; rfl
    · intro h
      have h3 : s[s.size - 1]'hlt = 10 := by
        apply UInt8.toNat_inj.1
        have : (s[s.size - 1]'hlt).toNat = 10 := by omega
        rw [this]; rfl
      rw [h3]
      rfl
  show K (strEq _ _, ()) S = _
  rw [e2]
theorem text_bad (s : ByteArray) : isTextS s = (!(badB s) && (strEq s (bs []) || (bt s ((s.size - 1 : Nat) : Int) == 10))) := by
  unfold isTextS badB
  generalize (strEq s (bs []) || (bt s ((s.size - 1 : Nat) : Int) == 10)) = fin
  have : ∀ (d i : Nat), scan (fun i => match okB (bt s i) with | true => none | false => some false) fin d i = (!(scan (fun i => match okB (bt s i) with | true => none | false => some true) false d i) && fin) := by
    intro d
    induction d with
    | zero => intro i; simp [scan]
    | succ d ih =>
      intro i
      simp only [scan]
      cases okB (bt s i) with
      | true => exact ih _
      | false => rfl
  exact this _ _
end
end Go.Lm

/- What is wrong with a result: the program's function. -/
set_option maxRecDepth 100000
namespace Go.Lm
section
variable {R : Type}
def midS (x : Res) (b : Bool) (Jn Jr : Int → Option R) : Option R := match b with
  | true => Jr 1
  | false => match decide (x.text.size > 100000) with
    | true => Jr 2
    | false => match isTextS x.text with
      | false => Jr 3
      | true => Jn 0
theorem q0_at (k : Nat) (x : Res) (ok : ResOk x) (b : Bool) (S : List LV) (Jn : (Int × ByteArray × List LV × List LV × Int × Unit) × Unit → List LV → Option R) (Jr : Int × Unit → List LV → Option R) :
    G.action_CheckResult.q0 k Jn Jr (x.tup, b, ()) S = midS x b (fun _ => Jn (x.tup, ()) S) (fun n => Jr (n, ()) S) := by
  unfold G.action_CheckResult.q0 midS
  dsimp only
  cases b with
  | true => rfl
  | false =>
    have e1 : decide ((x.text.size : Int) > (100000 : Int)) = decide (x.text.size > 100000) := gt_nat _ 100000
    rw [ifB_false, e1]
    cases decide (x.text.size > 100000) with
    | true => rfl
    | false =>
      rw [ifB_false, prog_ContainsFunc, text_bad]
      dsimp only
      cases badB x.text with
      | true => rfl
      | false =>
        rw [ifB_false, Bool.not_false, Bool.true_and]
        cases he : strEq x.text (bs []) with
        | true => rfl
        | false =>
          have h0 : 0 < x.text.size := by
            rcases Nat.eq_zero_or_pos x.text.size with h | h
            · have : x.text = bs [] := ba_ext (by
                have : x.text.data.toList.length = 0 := by rw [ba_len]; exact h
                rw [List.eq_nil_of_length_eq_zero this]; rfl)
              rw [(strEq_iff _ _).2 this] at he; cases he
            · exact h
          rw [Bool.not_false, ifB_true, prog_HasSuffix k _ ok.t h0, Bool.false_or]
          dsimp only
          cases (bt x.text ((x.text.size - 1 : Nat) : Int) == 10) <;> rfl
theorem q2_at {k : Nat} (hk : Many k) (x : Res) (ok : ResOk x) (S : List LV) (Jr : Int × Unit → List LV → Option R) : G.action_CheckResult.q2 k Jr (x.tup, ()) S = Jr (tailS x, ()) S := by
  unfold G.action_CheckResult.q2 tailS
  dsimp only
  rw [prog_CheckFiles hk _ ok.f]
  unfold G.action_CheckResult.q3
  dsimp only
  have h0 : ∀ n : Int, (n != 0) = !(n == 0) := fun n => rfl
  rw [h0]
  cases hc : checkFilesS x.files == 0 with
  | false => rfl
  | true =>
    rw [Bool.not_true, ifB_false]
    unfold G.action_CheckResult.q4 G.action_CheckResult.q1
    dsimp only
    have e2 : decide (((x.files.map File.lv).length : Int) > (0 : Int)) = decide (x.files.length > 0) := by rw [List.length_map]; exact gt_nat _ 0
    rw [e2, prog_CheckLooks hk]
    cases decide (x.files.length > 0) <;> cases (x.code != 0) <;> rfl
theorem prog_CheckResult {k : Nat} (hk : Many k) (x : Res) (ok : ResOk x) (S : List LV) (K : Int × Unit → List LV → Option R) : G.action_CheckResult.fn k (x.tup, ()) S K = K (checkResS x, ()) S := by
  unfold G.action_CheckResult.fn
  dsimp only
  simp only [q0_at k x ok, q2_at hk x ok]
  unfold checkResS withinB
  by_cases h1 : x.code < 0
  · have h2 : ¬ (x.code ≥ 0) := by omega
    rw [ifB_pos h1]
    simp only [h2, decide_false, Bool.false_and]
    rfl
  · have h2 : x.code ≥ 0 := by omega
    rw [ifB_neg h1]
    by_cases h3 : x.code > 999999
    · have h4 : ¬ (x.code ≤ 999999) := by omega
      rw [ifB_pos h3]
      simp only [h4, decide_false, Bool.and_false, Bool.false_and]
      rfl
    · have h4 : x.code ≤ 999999 := by omega
      rw [ifB_neg h3]
      by_cases h5 : x.cmd < 0
      · have h6 : ¬ (x.cmd ≥ 0) := by omega
        rw [ifB_pos h5]
        simp only [h6, decide_false, Bool.false_and, Bool.and_false]
        rfl
      · have h6 : x.cmd ≥ 0 := by omega
        rw [ifB_neg h5]
        by_cases h7 : x.cmd > 50
        · have h8 : ¬ (x.cmd ≤ 50) := by omega
          simp only [h2, h4, h6, h7, h8, decide_false, decide_true, Bool.and_false, Bool.and_true]
          rfl
        · have h8 : x.cmd ≤ 50 := by omega
          simp only [h2, h4, h6, h7, h8, decide_false, decide_true, Bool.and_true, midS]
          cases decide (x.text.size > 100000) with
          | true => rfl
          | false => cases isTextS x.text <;> rfl
end
end Go.Lm
