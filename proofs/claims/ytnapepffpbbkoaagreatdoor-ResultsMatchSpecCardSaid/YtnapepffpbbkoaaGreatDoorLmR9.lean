/- The text of a result: the reference's function. -/
import Derived.Test.YtnapepffpbbkoaaGreatDoorLmR8
set_option maxRecDepth 100000
namespace Go.Lm
section
variable {R : Type}
theorem asStr_at (s : ByteArray) (K : ByteArray → Option R) : asStr (LV.str s) K = K s := rfl
theorem ref_ResultTextOf {k : Nat} (hk : Many k) {x : Res} (r : ResRight x) {S : List LV} (hS : HasPow S) (K : ByteArray × Unit → List LV → Option R) : G.smithyardref5_ResultTextOf.fn k (x.tup, ()) S K = K (textS x, ()) S := by
  have hk' := hk
  unfold Many at hk'
  unfold G.smithyardref5_ResultTextOf.fn
  dsimp only
  refine (head_at k r hS (fun s10 S => rounds (G.smithyardref5_ResultTextOf.b0 k (fun (o29 : ((Int × ByteArray × List LV × List LV × Int × Unit) × ByteArray × Unit)) S => rounds (G.smithyardref5_ResultTextOf.b1 k (fun (o37 : (ByteArray × Unit)) S => K (o37.1, ()) S)) k ((o29.1.1, o29.1.2.1, o29.1.2.2.1, o29.1.2.2.2.1, o29.1.2.2.2.2.1, ()), o29.2.1, (0 : Int), ()) S)) k (x.tup, s10, (0 : Int), ()) S)).trans ?_
  have hh := head_size r
  have fz := fun i hi => files_size r.files.2 (headS x) i hi
  have lz := fun i hi => looks_size r.looks.2 (filesT x.files (headS x) x.files.length) i hi
  have c1 := r.files.1
  have c2 := r.looks.1
  refine (rounds_scan0 (fun i => (x.tup, filesT x.files (headS x) i, (i : Int), ())) S x.files.length k (fun _ => none) (K (textS x, ()) S) (fun rec i hi => ?_) (fun rec => ?_) (by omega)).trans (scan_none _ _ (fun _ _ _ => rfl))
  · have hm := r.files.2 _ (file_mem x.files i hi)
    have hz := fz i (by omega)
    unfold G.smithyardref5_ResultTextOf.b0
    dsimp only
    rw [List.length_map, lt_nat, ifB_pos hi, idxL_nat (by simpa using hi), file_get _ _ hi, File.mat]
    show asStr (.str _) _ = _
    rw [asStr_at]
    show asBool (.bool _) _ = _
    rw [asBool_bool]
    show asSl 1 (File.leaf _) _ = _
    rw [File.sl]
    have h1 := itoa_size ((x.files.getD i .zero).b.size : Int) (by omega) (by omega)
    have h2 := signS_size (x.files.getD i .zero).r
    have e1 : (bs [102, 105, 108, 101, 32]).size = 5 := rfl
    have e2 : (bs [32]).size = 1 := rfl
    have e3 : (bs [10]).size = 1 := rfl
    rw [catStr_le (by omega), catStr_le (by simp only [app_size]; omega), strOf_bytes, ref_sign]
    dsimp only
    rw [catStr_le (by simp only [app_size]; omega), catStr_le (by simp only [app_size]; omega), bytesL_len, Itoa_at k hS _ (by omega) (by omega)]
    dsimp only
    rw [catStr_le (by simp only [app_size]; omega), catStr_le (by simp only [app_size]; omega), catStr_le (by simp only [app_size]; omega), catStr_le (by simp only [app_size]; omega), catStr_le (by simp only [app_size]; omega)]
    unfold G.smithyardref5_ResultTextOf.q0
    dsimp only
    rw [wrap_succ (by omega)]
    rfl
  · unfold G.smithyardref5_ResultTextOf.b0
    dsimp only
    rw [List.length_map, lt_nat, ifB_neg (Nat.lt_irrefl _)]
    refine (rounds_scan0 (fun i => (x.tup, looksT x.looks (filesT x.files (headS x) x.files.length) i, (i : Int), ())) S x.looks.length k (fun _ => none) (K (textS x, ()) S) (fun rec i hi => ?_) (fun rec => ?_) (by omega)).trans (scan_none _ _ (fun _ _ _ => rfl))
    · have hm := r.looks.2 _ (look_mem x.looks i hi)
      have hz := lz i (by omega)
      have hf := fz x.files.length (Nat.le_refl _)
      have hl := line_size _ hm.1 hm.2
      unfold G.smithyardref5_ResultTextOf.b1
      dsimp only
      rw [List.length_map, lt_nat, ifB_pos hi, idxL_nat (by simpa using hi), look_get _ _ hi, Look.mat]
      show asStr (.str _) _ = _
      rw [asStr_at]
      show asStr (.str _) _ = _
      rw [asStr_at]
      show asBool (.bool _) _ = _
      rw [asBool_bool, ref_lookLine k (x.looks.getD i .zero) (by omega) (by omega)]
      dsimp only
      rw [catStr_le (by omega), wrap_succ (by omega)]
      rfl
    · unfold G.smithyardref5_ResultTextOf.b1
      dsimp only
      rw [List.length_map, lt_nat, ifB_neg (Nat.lt_irrefl _)]
      rfl
theorem ref_ResultText {k : Nat} (hk : Many k) (x : Res) (ok : ResOk x) {S : List LV} (hS : HasPow S) (K : ByteArray × Int × Unit → List LV → Option R) : G.smithyardref5_ResultText.fn k (x.tup, ()) S K = K ((resTextS x).1, (resTextS x).2, ()) S := by
  unfold G.smithyardref5_ResultText.fn resTextS
  dsimp only
  rw [ref_CheckResult hk x ok]
  dsimp only
  have h0 : ∀ n : Int, (n != 0) = !(n == 0) := fun n => rfl
  rw [h0]
  cases hc : checkResS x == 0 with
  | false => rfl
  | true =>
    rw [Bool.not_true, ifB_false, ref_ResultTextOf hk (res_right (eq_of_beq hc)) hS]
    dsimp only
    have e1 : decide (((textS x).size : Int) > (4000000 : Int)) = decide ((textS x).size > 4000000) := gt_nat _ 4000000
    rw [e1]
    cases decide ((textS x).size > 4000000) <;> rfl
end
end Go.Lm
