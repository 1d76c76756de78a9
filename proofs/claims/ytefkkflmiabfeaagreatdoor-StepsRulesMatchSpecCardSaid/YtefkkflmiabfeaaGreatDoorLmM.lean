/- Words for readers: objects in the store, words, numbers. -/
import Derived.Test.YtefkkflmiabfeaaGreatDoorLmN
set_option linter.unusedVariables false
set_option linter.unusedSimpArgs false
set_option maxRecDepth 100000
namespace Go.Lm
section
variable {R : Type}
theorem idx_str0 (a : ByteArray) (l : List ByteArray) (K : LV → Option R) : idxL ((a :: l).map LV.str) 0 K = K (.str a) := idxL_nat (xs := (a :: l).map LV.str) (i := 0) (by simp) K
theorem idx_str1 (a b : ByteArray) (l : List ByteArray) (K : LV → Option R) : idxL ((a :: b :: l).map LV.str) 1 K = K (.str b) := idxL_nat (xs := (a :: b :: l).map LV.str) (i := 1) (by simp) K
theorem asLeaf_str (a : ByteArray) (K : ByteArray → Option R) : asStr (leaf (.str a) 0) K = K a := rfl
theorem at_of {S : List LV} {id t : Nat} {xs : List LV} (h : S.getD id .any = .obj t xs) (K : (List LV → LV) → List LV → Option R) : objAt S id K = K (.obj t) xs := by
  unfold objAt
  rw [h]
theorem lt_of {S : List LV} {id t : Nat} {xs : List LV} (h : S.getD id .any = .obj t xs) : id < S.length := by
  rcases Nat.lt_or_ge id S.length with h1 | h1
  · exact h1
  · rw [List.getD_eq_getElem?_getD, List.getElem?_eq_none h1] at h; cases h
theorem has_set {S : List LV} {id t : Nat} {xs : List LV} (h : S.getD id .any = .obj t xs) (v : LV) : (S.set id v).getD id .any = v := by
  have := lt_of h
  simp [List.getD_eq_getElem?_getD, this]
theorem other_set {S : List LV} {id id' : Nat} (h : id ≠ id') (v : LV) : (S.set id v).getD id' .any = S.getD id' .any := by
  simp only [List.getD_eq_getElem?_getD, List.getElem?_set_ne h]
theorem ref_bytesIn {k : Nat} (hk : Many k) (s : ByteArray) (hs : s.size ≤ 140737488355328) (lo hi : Int) (S : List LV) (K : Bool × Unit → List LV → Option R) :
    G.smithyardref5_bytesIn.fn k (s, lo, hi, ()) S K = K (scan (fun i => match decide (lo ≤ bt s i) && decide (bt s i ≤ hi) with | true => none | false => some false) true s.size 0, ()) S := by
  unfold Many at hk
  unfold G.smithyardref5_bytesIn.fn
  dsimp only
  rw [← scan_map (fun b => K (b, ()) S)]
  refine rounds_scan0 (fun i => (s, lo, hi, (i : Int), ())) S s.size k _ _ (fun rec i hi' => ?_) (fun rec => ?_) (by omega)
  · unfold G.smithyardref5_bytesIn.b0
    dsimp only
    rw [lt_nat, ifB_pos hi', idxStr_nat hi', idxStr_nat hi', wrap_succ (by omega)]
    by_cases h1 : bt s (i : Int) < lo
    · have h2 : ¬ (lo ≤ bt s (i : Int)) := by omega
      simp [h1, h2]
    · have h2 : lo ≤ bt s (i : Int) := by omega
      by_cases h3 : bt s (i : Int) > hi
      · have h4 : ¬ (bt s (i : Int) ≤ hi) := by omega
        simp [h1, h2, h3, h4]
      · have h4 : bt s (i : Int) ≤ hi := by omega
        simp [h1, h2, h3, h4]
  · unfold G.smithyardref5_bytesIn.b0
    dsimp only
    rw [lt_nat, ifB_neg (Nat.lt_irrefl _)]
theorem dig_scan (s : ByteArray) : scan (fun i => match decide (48 ≤ bt s i) && decide (bt s i ≤ 57) with | true => none | false => some false) true s.size 0 = (toL s).all digB := by
  have := all_bytes s (fun c => decide (48 ≤ c) && decide (c ≤ 57))
  refine Eq.trans (Eq.symm this) ?_
  show (toL s).all _ = _
  congr 1
  funext b
  unfold digB
  rw [Bool.eq_iff_iff]
  simp only [Bool.and_eq_true, decide_eq_true_eq]
  omega
def numD (w : ByteArray) (d : Nat) : Int := match isNumS w d with
  | true => numV w
  | false => 0
theorem ref_numberedD {k : Nat} (hk : Many k) (w : ByteArray) (d : Nat) (hd : d ≤ 18) (hw : w.size ≤ 140737488355328) (S : List LV) (K : Int × Bool × Unit → List LV → Option R) : G.smithyardref5_numbered.fn k (w, (d : Int), ()) S K = K (numD w d, isNumS w d, ()) S := by
  unfold G.smithyardref5_numbered.fn G.smithyardref5_numbered.q0 G.smithyardref5_numbered.q1
  dsimp only
  simp only [ref_bytesIn hk w (by omega), dig_scan]
  have hl := toL_len w
  have no : ∀ b : Bool, b = false → isNumS w d = b → K (0, false, ()) S = K (numD w d, isNumS w d, ()) S := fun b hb h => by
    unfold numD
    rw [h, hb]
  by_cases h0 : w.size = 0
  · have e0 : strEq w (bs []) = true := by
      rw [strEq_iff]
      exact toL_inj (by rw [List.eq_nil_of_length_eq_zero (by omega : (toL w).length = 0)]; rfl)
    rw [e0, ifB_true]
    refine no false rfl ?_
    unfold isNumS isNumL
    rw [decide_eq_false (by omega)]; rfl
  · have e0 : strEq w (bs []) = false := by
      rw [← Bool.not_eq_true, strEq_iff]
      intro h; rw [h] at h0; exact h0 rfl
    rw [e0, ifB_false]
    by_cases h9 : w.size ≤ d
    · rw [ifB_neg (show ¬ ((w.size : Int) > (d : Int)) by omega)]
      cases hb : toL w with
      | nil => rw [hb] at hl; simp at hl; omega
      | cons c t =>
        rw [hb] at hl
        simp only [List.length_cons] at hl
        cases ha : (c :: t).all digB with
        | false =>
          have hn : isNumS w d = false := by unfold isNumS isNumL; rw [hb, ha]; simp
          rw [Bool.not_false, ifB_true]
          by_cases h1 : w.size > 1
          · rw [ifB_pos (show (w.size : Int) > 1 by omega)]
            have e1 : ∀ K : Int → Option R, idxStr w 0 K = K (bt w 0) := fun K => idxStr_nat (i := 0) (by omega) K
            rw [e1]
            cases bt w 0 == 48 with
            | true => exact no false rfl hn
            | false => exact no false rfl hn
          · rw [ifB_neg (show ¬ (w.size : Int) > 1 by omega)]
            exact no false rfl hn
        | true =>
          have hnum := isNum_cons (d := d) (by omega) ha
          have hn : isNumS w d = (decide (c ≠ 48) || decide (t = [])) := by unfold isNumS; rw [hb]; exact hnum
          rw [Bool.not_true, ifB_false]
          by_cases h1 : w.size > 1
          · rw [ifB_pos (show (w.size : Int) > 1 by omega)]
            have e1 : ∀ K : Int → Option R, idxStr w 0 K = K (bt w 0) := fun K => idxStr_nat (i := 0) (by omega) K
            rw [e1, bt_zero hb]
            have ht : t ≠ [] := fun e => by rw [e] at hl; simp at hl; omega
            by_cases h48 : c = 48
            · subst h48
              have e2 : (((48 : UInt8).toNat : Int) == 48) = true := rfl
              rw [e2, ifB_true]
              refine no false rfl ?_
              rw [hn]; simp [ht]
            · have h7 : c.toNat ≠ 48 := fun e => h48 (UInt8.toNat_inj.1 e)
              have e2 : ((c.toNat : Int) == 48) = false := by rw [beq_eq_false_iff_ne]; omega
              have hy : isNumS w d = true := by rw [hn]; simp [h48]
              rw [e2, ifB_false, Atoi_at k (d := d) hd hy]
              unfold numD
              rw [hy]
          · rw [ifB_neg (show ¬ (w.size : Int) > 1 by omega)]
            have ht : t = [] := List.eq_nil_of_length_eq_zero (by omega)
            have hy : isNumS w d = true := by rw [hn]; simp [ht]
            rw [Atoi_at k (d := d) hd hy]
            unfold numD
            rw [hy]
    · rw [ifB_pos (show (w.size : Int) > (d : Int) by omega)]
      refine no false rfl ?_
      unfold isNumS isNumL
      rw [decide_eq_false (show ¬ (toL w).length ≤ d by omega)]
      simp
end
end Go.Lm
