/- The law's own parts: looks, standing, copies; and the law over them. -/
import Derived.Test.YtnapepffpbbkoaaGreatDoorLmU5
set_option maxRecDepth 100000
namespace Go.Lm
section
variable {R : Type}
theorem checkFiles_rising {l : List File} (h : checkFilesS l = 0) : Rising l := by
  unfold checkFilesS at h
  cases hd : decide (l.length > 1000) with
  | true => rw [hd] at h; cases h
  | false =>
    rw [hd] at h
    refine fileS_rising (fun i hi => ?_)
    refine Classical.byContradiction (fun hne => ?_)
    have key : ∀ (d i : Nat) (fin : Int), (∃ j, i ≤ j ∧ j < i + d ∧ fileS l j ≠ none) → scan (fileS l) fin d i ≠ 0 := by
      intro d
      induction d with
      | zero => intro i fin ⟨j, h1, h2, _⟩; omega
      | succ d ih =>
        intro i fin ⟨j, h1, h2, h3⟩
        simp only [scan]
        cases hs : fileS l i with
        | some r =>
          unfold fileS at hs
          split at hs
          · cases hs; show (3 : Int) ≠ 0; decide
          · split at hs
            · cases hs; show (2 : Int) ≠ 0; decide
            · split at hs
              · cases hs; show (8 : Int) ≠ 0; decide
              · cases hs
        | none =>
          refine ih _ _ ⟨j, ?_, by omega, h3⟩
          by_cases e : j = i
          · subst e; exact absurd hs h3
          · omega
    exact key l.length 0 _ ⟨i, Nat.zero_le _, by omega, hne⟩ h
theorem checkLooks_len {l : List Look} (h : checkLooksS l = 0) : l.length ≤ 4000 := by
  unfold checkLooksS at h
  cases hd : decide (l.length > 4000) with
  | true => rw [hd] at h; cases h
  | false => have := of_decide_eq_false hd; omega
abbrev Look.zero : Look := ⟨bs [], bs [], false⟩
def looksAt (l : List Look) (files : List File) : List Look := l.map fun x => atS files x.p
def looksOfS (l : List Look) (files : List File) : List Look × Int := match checkLooksS l == 0 with
  | false => ([], checkLooksS l)
  | true => match checkFilesS files == 0 with
    | false => ([], checkFilesS files)
    | true => (looksAt l files, 0)
theorem looks_take (l : List Look) (files : List File) (i : Nat) (hi : i < l.length) : ((looksAt l files).take i).map Look.lv ++ [(atS files (l.getD i Look.zero).p).lv] = ((looksAt l files).take (i + 1)).map Look.lv := by
  unfold looksAt
  rw [List.take_succ_eq_append_getElem (by simpa using hi), List.map_append]
  simp [List.getD_eq_getElem?_getD, hi]
theorem take_all (l : List Look) (files : List File) : (looksAt l files).take l.length = looksAt l files := by
  rw [List.take_of_length_le]; unfold looksAt; simp
theorem app_one {b : Nat} {ys : List LV} {x : LV} {K : List LV → Option R} (h : (ys.length + 1) * b ≤ 140737488355328) (h2 : ys.length + 1 ≤ 9223372036854775807) : app b ys [x] K = K (ys ++ [x]) := app_le h h2
theorem prog_LooksOf {k : Nat} (hk : Many k) (l : List Look) {files : List File} (ok : FilesOk files) (S : List LV) (K : List LV × Int × Unit → List LV → Option R) :
    G.action_LooksOf.fn k (l.map Look.lv, files.map File.lv, ()) S K = K ((looksOfS l files).1.map Look.lv, (looksOfS l files).2, ()) S := by
  unfold G.action_LooksOf.fn looksOfS
  dsimp only
  rw [prog_CheckLooks hk]
  dsimp only
  have h0 : ∀ n : Int, (n != 0) = !(n == 0) := fun n => rfl
  rw [h0]
  cases hc : checkLooksS l == 0 with
  | false => rw [Bool.not_false, ifB_true]; rfl
  | true =>
    rw [Bool.not_true, ifB_false, prog_CheckFiles hk _ ok]
    dsimp only
    rw [h0]
    cases hf : checkFilesS files == 0 with
    | false => rw [Bool.not_false, ifB_true]; rfl
    | true =>
      rw [Bool.not_true, ifB_false]
      have hl := checkLooks_len (eq_of_beq hc)
      have hr := checkFiles_rising (eq_of_beq hf)
      have hk' := hk
      unfold Many at hk'
      rw [List.length_map]
      refine (rounds_scan0 (fun i => (files.map File.lv, ((looksAt l files).take i).map Look.lv, l.map Look.lv, (l.length : Int), (i : Int), ())) S l.length k (fun _ => none) (K ((looksAt l files).map Look.lv, 0, ()) S) (fun rec i hi => ?_) (fun rec => ?_) (by omega)).trans (scan_none _ _ (fun _ _ _ => rfl))
      · unfold G.action_LooksOf.b0
        dsimp only
        rw [lt_nat, ifB_pos hi, idxL_nat (by simpa using hi), look_get _ _ hi, Look.mat]
        show asStr (.str _) _ = _
        rw [asStr_str]
        show asStr (.str _) _ = _
        rw [asStr_str]
        show asBool (.bool _) _ = _
        rw [asBool_bool, prog_lookAt hk hr ok]
        have h1 : (((looksAt l files).take i).map Look.lv).length ≤ 4000 := by
          rw [List.length_map, List.length_take]; omega
        rw [app_one (by omega) (by omega)]
        show rec (_, (((looksAt l files).take i).map Look.lv ++ [(atS files (l.getD i Look.zero).p).lv]), _) S = _
        rw [looks_take _ _ _ hi, wrap_succ (by omega)]
      · unfold G.action_LooksOf.b0
        dsimp only
        rw [lt_nat, ifB_neg (Nat.lt_irrefl _), take_all]

/-! ### Lists of looks that are alike -/
def lookEq (x y : Look) : Bool := strEq x.p y.p && (strEq x.d y.d && (x.r == y.r && true))
def eqLooksS (a b : List Look) : Bool := (a.length == b.length) && scan (fun i => match lookEq (a.getD i .zero) (b.getD i .zero) with | true => none | false => some false) true a.length 0
theorem lookEq_refl (x : Look) : lookEq x x = true := by
  unfold lookEq
  rw [(strEq_iff x.p x.p).2 rfl, (strEq_iff x.d x.d).2 rfl]
  simp
theorem eqLooks_refl (a : List Look) : eqLooksS a a = true := by
  unfold eqLooksS
  rw [beq_self_eq_true, Bool.true_and]
  exact scan_none _ _ (fun i _ _ => by rw [lookEq_refl])
theorem ne_len (a b : Nat) : ((a : Int) != (b : Int)) = !(a == b) := by
  rw [Bool.eq_iff_iff]; simp
  omega
theorem beq_true' (b : Bool) : (b == true) = b := by cases b <;> rfl
theorem eq_step (a b : List Look) (i : Nat) (ha : i < a.length) (hb : i < b.length) (Kf Kt : Option R) :
    (idxL (a.map Look.lv) (i : Int) fun v1 => mat 3 v1 fun c2 => asStr (c2.getD 0 .any) fun s3 => asStr (c2.getD 1 .any) fun s4 => asBool (c2.getD 2 .any) fun b5 => idxL (b.map Look.lv) (i : Int) fun v6 => mat 3 v6 fun c7 => asStr (c7.getD 0 .any) fun s8 => asStr (c7.getD 1 .any) fun s9 => asBool (c7.getD 2 .any) fun b10 => ifB (!((strEq s3 s8 && (strEq s4 s9 && (b5 == b10 && true))) == true)) Kf Kt) = ifB (!(lookEq (a.getD i .zero) (b.getD i .zero))) Kf Kt := by
  rw [idxL_nat (by simpa using ha), look_get _ _ ha, Look.mat]
  show asStr (.str _) _ = _
  rw [asStr_str]
  show asStr (.str _) _ = _
  rw [asStr_str]
  show asBool (.bool _) _ = _
  rw [asBool_bool, idxL_nat (by simpa using hb), look_get _ _ hb, Look.mat]
  show asStr (.str _) _ = _
  rw [asStr_str]
  show asStr (.str _) _ = _
  rw [asStr_str]
  show asBool (.bool _) _ = _
  rw [asBool_bool, beq_true']
  rfl
def standsS (l : List Look) (files : List File) : Bool × Int := match (looksOfS l files).2 == 0 with
  | false => (false, (looksOfS l files).2)
  | true => (eqLooksS l (looksOfS l files).1, (looksOfS l files).2)

/-! ### Copies -/
def File.cp (x : File) : File := ⟨x.p, x.r, x.b, false, fun h => by cases h⟩
theorem strOf_bytes (b : ByteArray) (K : ByteArray → Option R) : strOf (bytesL b) K = K b := by
  unfold strOf bytesL
  rw [strL_hex]
/-! ### The reference's file `cp` answers as the file -/
theorem cp_get (l : List File) (i : Nat) (hi : i < l.length) : (l.map File.cp).getD i .zero = (l.getD i .zero).cp := by simp [List.getD_eq_getElem?_getD, hi]
theorem cp_p (l : List File) (i : Nat) : ((l.map File.cp).getD i .zero).p = (l.getD i .zero).p := by
  by_cases hi : i < l.length
  · rw [cp_get _ _ hi]; rfl
  · simp [List.getD_eq_getElem?_getD, List.getElem?_eq_none (Nat.le_of_not_lt hi)]
theorem cp_b (l : List File) (i : Nat) : ((l.map File.cp).getD i .zero).b = (l.getD i .zero).b := by
  by_cases hi : i < l.length
  · rw [cp_get _ _ hi]; rfl
  · simp [List.getD_eq_getElem?_getD, List.getElem?_eq_none (Nat.le_of_not_lt hi)]
theorem cp_r (l : List File) (i : Nat) : ((l.map File.cp).getD i .zero).r = (l.getD i .zero).r := by
  by_cases hi : i < l.length
  · rw [cp_get _ _ hi]; rfl
  · simp [List.getD_eq_getElem?_getD, List.getElem?_eq_none (Nat.le_of_not_lt hi)]
theorem cp_mem (l : List File) (s : ByteArray) : memB (l.map File.cp) s = memB l s := by
  unfold memB
  rw [List.any_map]
  rfl
theorem cp_clash (l : List File) (i : Nat) : clashS (l.map File.cp) i = clashS l i := by
  unfold clashS clashB
  rw [cp_p]
  simp only [cp_mem]
theorem cp_file (l : List File) (i : Nat) : fileS (l.map File.cp) i = fileS l i := by
  unfold fileS
  rw [cp_p, cp_p, cp_b]
theorem cp_sum (l : List File) : ∀ i, sumB (l.map File.cp) i = sumB l i
  | 0 => rfl
  | i + 1 => by simp only [sumB]; rw [cp_sum l i, cp_b]
theorem cp_check (l : List File) : checkFilesS (l.map File.cp) = checkFilesS l := by
  unfold checkFilesS
  rw [List.length_map, funext (cp_file l), funext (cp_clash l), cp_sum]
theorem cp_at (l : List File) (s : ByteArray) : atS (l.map File.cp) s = atS l s := by
  unfold atS
  simp only [List.length_map, cp_p, cp_b, cp_r]
theorem cp_looks (a : List Look) (l : List File) : looksOfS a (l.map File.cp) = looksOfS a l := by
  unfold looksOfS looksAt
  simp only [cp_check, cp_at]
theorem cp_stands (a : List Look) (l : List File) : standsS a (l.map File.cp) = standsS a l := by
  unfold standsS
  rw [cp_looks]
theorem cp_ok {l : List File} (ok : FilesOk l) : FilesOk (l.map File.cp) := by
  refine ⟨by rw [List.length_map]; exact ok.n, fun x hx => ?_, fun x hx => ?_⟩
  · obtain ⟨y, hy, rfl⟩ := List.mem_map.1 hx; exact ok.b y hy
  · obtain ⟨y, hy, rfl⟩ := List.mem_map.1 hx; exact ok.p y hy
end
end Go.Lm
