/- The text of a result: the program's function. -/
import Derived.Test.YtnapepffpbbkoaaGreatDoorLmR9
set_option maxRecDepth 100000
namespace Go.Lm
section
variable {R : Type}
theorem body_at {k : Nat} (hk : Many k) {x : Res} (r : ResRight x) {S : List LV} (hS : HasPow S) (Jret : ByteArray × Int × Unit → List LV → Option R) :
    G.action_ResultText.q0 k Jret (x.tup, (S.length, 0), (), ()) (bldS S (some (headS x))) = match decide ((textS x).size > 4000000) with
      | true => Jret (bs [], 2, ()) (bldS S (some (textS x)))
      | false => Jret (textS x, 0, ()) (S ++ [.any]) := by
  have hk' := hk
  unfold Many at hk'
  have hh := head_size r
  have fz := fun i hi => files_size r.files.2 (headS x) i hi
  have lz := fun i hi => looks_size r.looks.2 (filesT x.files (headS x) x.files.length) i hi
  have c1 := r.files.1
  have c2 := r.looks.1
  unfold G.action_ResultText.q0 G.action_ResultText.q1
  dsimp only
  rw [List.length_map]
  refine (rounds_scan (fun i => (x.tup, (S.length, 0), (), x.files.map File.lv, (x.files.length : Int), (i : Int), ())) (fun i => bldS S (some (filesT x.files (headS x) i))) x.files.length (fun _ => none) _ (fun rec i hi => ?_) (fun rec => ?_) x.files.length 0 k (by omega) (by omega)).trans (scan_none _ _ (fun _ _ _ => rfl))
  · have hm := r.files.2 _ (file_mem x.files i hi)
    have hz := fz i (by omega)
    have hfl := fileLine_size _ hm.1 hm.2
    unfold G.action_ResultText.b0
    dsimp only
    rw [lt_nat, ifB_pos hi, idxL_nat (by simpa using hi), file_get _ _ hi, File.mat]
    show asStr (.str _) _ = _
    rw [asStr_at]
    show asBool (.bool _) _ = _
    rw [asBool_bool]
    show asSl 1 (File.leaf _) _ = _
    rw [File.sl]
    have h1 := itoa_size ((x.files.getD i .zero).b.size : Int) (by omega) (by omega)
    have h2 := signS_size (x.files.getD i .zero).r
    have e1 : (bs [102, 105, 108, 101, 32]).size = 5 := rfl
    have e2 : (bs [32]).size = 1 := rfl
    have e3 : (bs [10]).size = 1 := rfl
    rw [catStr_le (by omega), catStr_le (by simp only [app_size]; omega), prog_runText]
    dsimp only
    rw [catStr_le (by simp only [app_size]; omega), catStr_le (by simp only [app_size]; omega), bytesL_len, Itoa_at k (hS.app _) _ (by omega) (by omega)]
    dsimp only
    rw [catStr_le (by simp only [app_size]; omega), catStr_le (by simp only [app_size]; omega)]
    show G.strings_Builder_WriteString.fn k ((S.length, 0), fileLineS (x.files.getD i .zero), ()) _ _ = _
    rw [WriteString_at k S _ _ (by show (filesT x.files (headS x) i).size + _ ≤ _; omega)]
    rw [Write_at k S _ _ (by show (filesT x.files (headS x) i ++ _).size + _ ≤ _; rw [app_size]; omega)]
    rw [WriteString_at k S _ _ (by show ((filesT x.files (headS x) i ++ _) ++ _).size + _ ≤ _; rw [app_size, app_size]; omega), wrap_succ (by omega)]
    have e4 : accB (some (accB (some (accB (some (filesT x.files (headS x) i)) ++ fileLineS (x.files.getD i .zero))) ++ (x.files.getD i .zero).b)) ++ bs [10] = filesT x.files (headS x) (i + 1) := by
      show ((filesT x.files (headS x) i ++ fileLineS (x.files.getD i .zero)) ++ (x.files.getD i .zero).b) ++ bs [10] = _
      simp only [filesT, ByteArray.append_assoc]
    rw [e4]
  · unfold G.action_ResultText.b0
    dsimp only
    rw [lt_nat, ifB_neg (Nat.lt_irrefl _), List.length_map]
    refine (rounds_scan (fun i => ((S.length, 0), x.looks.map Look.lv, (x.looks.length : Int), (i : Int), ())) (fun i => bldS S (some (looksT x.looks (filesT x.files (headS x) x.files.length) i))) x.looks.length (fun _ => none) _ (fun rec i hi => ?_) (fun rec => ?_) x.looks.length 0 k (by omega) (by omega)).trans (scan_none _ _ (fun _ _ _ => rfl))
    · have hm := r.looks.2 _ (look_mem x.looks i hi)
      have hz := lz i (by omega)
      have hf := fz x.files.length (Nat.le_refl _)
      have hl := line_size _ hm.1 hm.2
      unfold G.action_ResultText.b1
      dsimp only
      rw [lt_nat, ifB_pos hi, idxL_nat (by simpa using hi), look_get _ _ hi, Look.mat]
      show asStr (.str _) _ = _
      rw [asStr_at]
      show asStr (.str _) _ = _
      rw [asStr_at]
      show asBool (.bool _) _ = _
      rw [asBool_bool, prog_lookText k (x.looks.getD i .zero) (by omega) (by omega)]
      dsimp only
      rw [WriteString_at k S _ _ (by show (looksT x.looks (filesT x.files (headS x) x.files.length) i).size + _ ≤ _; omega), wrap_succ (by omega)]
      rfl
    · unfold G.action_ResultText.b1
      dsimp only
      rw [lt_nat, ifB_neg (Nat.lt_irrefl _), Len_at]
      dsimp only
      have e1 : decide (((textS x).size : Int) > (4000000 : Int)) = decide ((textS x).size > 4000000) := gt_nat _ 4000000
      show ifB (decide (((textS x).size : Int) > (4000000 : Int))) _ _ = _
      rw [e1]
      cases decide ((textS x).size > 4000000) with
      | true => rfl
      | false =>
        rw [ifB_false, String_at k S _ (looksT_pos (filesT_pos (head_pos x) _) _)]
        rfl
theorem prog_ResultText0 {k : Nat} (hk : Many k) (x : Res) (ok : ResOk x) {S : List LV} (hS : HasPow S) : ∃ G', ∀ {R : Type} (K : ByteArray × Int × Unit → List LV → Option R), G.action_ResultText.fn0 k (x.tup, ()) S K = K ((resTextS x).1, (resTextS x).2, ()) (S ++ G') := by
  have h0 : ∀ n : Int, (n != 0) = !(n == 0) := fun n => rfl
  cases hc : checkResS x == 0 with
  | false =>
    refine ⟨[], fun {R} K => ?_⟩
    unfold G.action_ResultText.fn0 resTextS
    dsimp only
    rw [prog_CheckResult hk x ok]
    dsimp only
    rw [h0, hc, List.append_nil]
    rfl
  | true =>
    have r := res_right (eq_of_beq hc)
    have key : ∀ {R : Type} (K : ByteArray × Int × Unit → List LV → Option R), G.action_ResultText.fn0 k (x.tup, ()) S K = match decide ((textS x).size > 4000000) with
        | true => K (bs [], 2, ()) (bldS S (some (textS x)))
        | false => K (textS x, 0, ()) (S ++ [.any]) := fun {R} K => by
      unfold G.action_ResultText.fn0
      dsimp only
      rw [prog_CheckResult hk x ok]
      dsimp only
      rw [h0, hc, Bool.not_true, ifB_false]
      unfold newObj
      dsimp only
      refine Eq.trans (head_at k r (S := bldS S none) (hS.app _) (fun s12 S' => G.strings_Builder_WriteString.fn k ((S.length, 0), s12, ()) S' fun r13 S2 => G.action_ResultText.q0 k (fun (o42 : (ByteArray × Int × Unit)) S => K (o42.1, o42.2.1, ()) S) (x.tup, (S.length, 0), (()), ()) S2)) ?_
      have hh := head_size r
      have e0 : (accB none).size = 0 := rfl
      rw [WriteString_at k S none _ (by omega)]
      have e5 : accB none ++ headS x = headS x := by
        apply ba_ext
        show ((bs [] : ByteArray) ++ headS x).data.toList = _
        simp
        rfl
      rw [e5, body_at hk r hS]
    cases hd : decide ((textS x).size > 4000000) with
    | true =>
      refine ⟨[.obj H.builderT (bldC S.length (some (textS x)))], fun {R} K => ?_⟩
      rw [key, hd]
      unfold resTextS
      rw [hc, hd]
    | false =>
      refine ⟨[.any], fun {R} K => ?_⟩
      rw [key, hd]
      unfold resTextS
      rw [hc, hd]
theorem prog_ResultText {k : Nat} (hk : Many k) (x : Res) (ok : ResOk x) {S : List LV} (hS : HasPow S) (K : ByteArray × Int × Unit → List LV → Option R) : G.action_ResultText.fn k (x.tup, ()) S K = K ((resTextS x).1, (resTextS x).2, ()) S := by
  obtain ⟨G', h⟩ := prog_ResultText0 hk x ok hS
  exact popK_at (h _) rfl
end
end Go.Lm
