/- Words for readers: objects in the store, words, numbers. -/
import Derived.Test.YtnapepffpbbkoaaGreatDoorLmN
set_option maxRecDepth 100000
namespace Go.Lm
section
variable {R : Type}
theorem idx_str0 (a : ByteArray) (l : List ByteArray) (K : LV → Option R) : idxL ((a :: l).map LV.str) 0 K = K (.str a) := idxL_nat (xs := (a :: l).map LV.str) (i := 0) (by simp) K
theorem idx_str1 (a b : ByteArray) (l : List ByteArray) (K : LV → Option R) : idxL ((a :: b :: l).map LV.str) 1 K = K (.str b) := idxL_nat (xs := (a :: b :: l).map LV.str) (i := 1) (by simp) K
theorem idx_str2 (a b c : ByteArray) (l : List ByteArray) (K : LV → Option R) : idxL ((a :: b :: c :: l).map LV.str) 2 K = K (.str c) := idxL_nat (xs := (a :: b :: c :: l).map LV.str) (i := 2) (by simp) K
theorem idx_str3 (a b c d : ByteArray) (l : List ByteArray) (K : LV → Option R) : idxL ((a :: b :: c :: d :: l).map LV.str) 3 K = K (.str d) := idxL_nat (xs := (a :: b :: c :: d :: l).map LV.str) (i := 3) (by simp) K
theorem asLeaf_str (a : ByteArray) (K : ByteArray → Option R) : asStr (leaf (.str a) 0) K = K a := rfl
/-- A list that is appended to: nil at first. -/
def ow (e z : Nat) (l : List LV) : LV := match l with
  | [] => .nilsl
  | l => .own e z l
theorem asOwn_ow (e z : Nat) (l : List LV) (K : List LV → Option R) : asOwn e z (ow e z l) K = K l := by
  cases l with
  | nil => rfl
  | cons a l =>
    show ifB (Nat.beq e e && Nat.beq z z) _ _ = _
    rw [Nat.beq_refl, Nat.beq_refl]; rfl
theorem asSl_ow (e z : Nat) (l : List LV) (K : List LV → Option R) : asSl z (dupL (ow e z l)) K = K l := by
  cases l with
  | nil => rfl
  | cons a l =>
    show ifB (Nat.beq z z) _ _ = _
    rw [Nat.beq_refl]; rfl
theorem ow_snoc (e z : Nat) (l : List LV) (x : LV) : LV.own e z (l ++ [x]) = ow e z (l ++ [x]) := by
  cases l <;> rfl
theorem at_of {S : List LV} {id t : Nat} {xs : List LV} (h : S.getD id .any = .obj t xs) (K : Nat → List LV → Option R) : objAt S id K = K t xs := by
  unfold objAt
  rw [h]
theorem lt_of {S : List LV} {id t : Nat} {xs : List LV} (h : S.getD id .any = .obj t xs) : id < S.length := by
  rcases Nat.lt_or_ge id S.length with h1 | h1
  · exact h1
  · rw [List.getD_eq_getElem?_getD, List.getElem?_eq_none h1] at h; cases h
theorem has_set {S : List LV} {id t : Nat} {xs : List LV} (h : S.getD id .any = .obj t xs) (v : LV) : (S.set id v).getD id .any = v := by
  have := lt_of h
  simp [List.getD_eq_getElem?_getD, this]
theorem other_set {S : List LV} {id id' : Nat} (h : id ≠ id') (v : LV) : (S.set id v).getD id' .any = S.getD id' .any := by
  simp only [List.getD_eq_getElem?_getD, List.getElem?_set_ne h]
theorem scan_false (f : ByteArray → Bool) : ∀ (l m : List ByteArray), scan (fun i => match f ((m ++ l).getD i (bs [])) with | true => some false | false => none) true l.length m.length = !(l.any f)
  | [], m => rfl
  | x :: l, m => by
    have e : (m ++ x :: l).getD m.length (bs []) = x := by simp [List.getD_eq_getElem?_getD]
    have ih := scan_false f l (m ++ [x])
    simp only [List.length_append, List.length_cons, List.length_nil, Nat.zero_add, List.append_assoc, List.cons_append, List.nil_append] at ih
    simp only [List.length_cons, scan, List.any_cons]
    by_cases h : f x = true
    · simp [e, h]
    · have h : f x = false := by simpa using h
      simp only [e, h, Bool.false_or]
      exact ih
theorem dig_scan (s : ByteArray) : scan (fun i => match decide (48 ≤ bt s i) && decide (bt s i ≤ 57) with | true => none | false => some false) true s.size 0 = (toL s).all digB := by
  have := all_bytes s (fun c => decide (48 ≤ c) && decide (c ≤ 57))
  refine Eq.trans (Eq.symm this) ?_
  show (toL s).all _ = _
  congr 1
  funext b
  unfold digB
  rw [Bool.eq_iff_iff]
  simp only [Bool.and_eq_true, decide_eq_true_eq]
  omega
def numD (w : ByteArray) (d : Nat) : Int := match isNumS w d with
  | true => numV w
  | false => 0
end
end Go.Lm
