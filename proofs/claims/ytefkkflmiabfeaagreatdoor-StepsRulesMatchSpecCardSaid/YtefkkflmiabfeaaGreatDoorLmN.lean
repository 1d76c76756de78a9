/- Words, lines and numbers, as the program's and the reference's functions take them; objects of the store. -/
import Derived.Test.YtefkkflmiabfeaaGreatDoorLmU
import Derived.Test.YtefkkflmiabfeaaGreatDoorLmL
set_option linter.unusedVariables false
set_option linter.unusedSimpArgs false
set_option maxRecDepth 100000
namespace Go.Lm
section
variable {R : Type}
theorem index_at {k : Nat} (hk : Many k) (l : List ByteArray) (hl : l.length ≤ 140737488355328) (w : ByteArray) (S : List LV) (K : Int × Unit → List LV → Option R) :
    G.slices_Index_s_string_string.fn k (l.map LV.str, w, ()) S K = K (scan (fun i => match strEq w (l.getD i (bs [])) with | true => some (i : Int) | false => none) (-1) l.length 0, ()) S := by
  unfold Many at hk
  unfold G.slices_Index_s_string_string.fn
  dsimp only
  rw [← scan_map (fun n : Int => K (n, ()) S), List.length_map]
  refine rounds_scan0 (fun i => (l.map LV.str, w, (l.length : Int), (i : Int), ())) S l.length k _ _ (fun rec i hi => ?_) (fun rec => ?_) (by omega)
  · unfold G.slices_Index_s_string_string.b0
    dsimp only
    rw [lt_nat, ifB_pos hi, idxL_nat (by simpa using hi), map_str_get l i hi]
    show ifB (strEq w (l.getD i (bs []))) _ _ = _
    rw [wrap_succ (by omega)]
    cases strEq w (l.getD i (bs [])) <;> rfl
  · unfold G.slices_Index_s_string_string.b0
    dsimp only
    rw [lt_nat, ifB_neg (Nat.lt_irrefl _)]
theorem scan_any (p : Nat → Bool) : ∀ (d i : Nat), decide (scan (fun j => match p j with | true => some (j : Int) | false => none) (-1) d i ≥ 0) = (List.range' i d).any p
  | 0, i => rfl
  | d + 1, i => by
    have ih := scan_any p d (i + 1)
    rw [List.range'_succ, List.any_cons, ← ih]
    by_cases h : p i = true
    · simp [scan, h]
    · have h : p i = false := by simpa using h
      simp [scan, h]
theorem any_range {α : Type} (z : α) (p : α → Bool) : ∀ (l : List α) (m : List α), (List.range' m.length l.length).any (fun j => p ((m ++ l).getD j z)) = l.any p
  | [], m => rfl
  | x :: l, m => by
    simp only [List.length_cons, List.range'_succ, List.any_cons]
    have e : (m ++ x :: l).getD m.length z = x := by simp [List.getD_eq_getElem?_getD]
    rw [e]
    have := any_range z p l (m ++ [x])
    simp only [List.length_append, List.length_cons, List.length_nil, Nat.zero_add, List.append_assoc, List.cons_append, List.nil_append] at this
    rw [this]
theorem contains_at {k : Nat} (hk : Many k) (l : List ByteArray) (hl : l.length ≤ 140737488355328) (w : ByteArray) (S : List LV) (K : Bool × Unit → List LV → Option R) :
    G.slices_Contains_s_string_string.fn k (l.map LV.str, w, ()) S K = K (l.any (strEq w), ()) S := by
  unfold G.slices_Contains_s_string_string.fn
  dsimp only
  rw [index_at hk l hl]
  dsimp only
  rw [scan_any (fun j => strEq w (l.getD j (bs []))), ← List.range_eq_range']
  have := any_range (bs []) (strEq w) l []
  simp only [List.length_nil, List.nil_append] at this
  rw [List.range_eq_range', this]
/-! ### numbers -/
theorem dig_key (b : UInt8) : (bs [48, 49, 50, 51, 52, 53, 54, 55, 56, 57]).data.toList.contains b = digB b := by
  have key : ∀ n : Fin 256, (bs [48, 49, 50, 51, 52, 53, 54, 55, 56, 57]).data.toList.contains (n.val.toUInt8) = digB (n.val.toUInt8) := by decide +kernel
  have := key ⟨b.toNat, b.toNat_lt⟩
  simpa only [Nat.toUInt8, UInt8.ofNat_toNat] using this
theorem trim_dig (k : Nat) (s : ByteArray) (hs : s.size ≤ 140737488355328) : ∃ t, strEq t (bs []) = (toL s).all digB ∧ ∀ (S : List LV) (K : ByteArray × Unit → List LV → Option R), H.Trim.fn k (s, bs [48, 49, 50, 51, 52, 53, 54, 55, 56, 57], ()) S K = K (t, ()) S := by
  have : (decide (s.size ≤ 9223372036854775807) && decide ((bs [48, 49, 50, 51, 52, 53, 54, 55, 56, 57]).size < 4294967281) && (bs [48, 49, 50, 51, 52, 53, 54, 55, 56, 57]).data.toList.all (fun b => decide (b.toNat < 128))) = true := by
    rw [decide_eq_true (by omega)]; decide +kernel
  refine ⟨_, ?_, fun S K => by unfold H.Trim.fn handF trimF; dsimp only; rw [this]⟩
  rw [Bool.eq_iff_iff, strEq_iff]
  have e : Lib.trimS s.data.toList (bs [48, 49, 50, 51, 52, 53, 54, 55, 56, 57]).data.toList = [] ↔ (toL s).all digB = true := by
    rw [trim_nil]
    simp only [dig_key]
    rfl
  rw [← e]
  constructor
  · intro h
    have := congrArg toL h
    simpa [toL, bs] using this
  · intro h; rw [h]; rfl
theorem bt_zero {s : ByteArray} {b : UInt8} {t : Bs} (h : toL s = b :: t) : bt s 0 = (b.toNat : Int) := by
  have hl : 0 < s.size := by rw [← toL_len, h]; simp
  have := bt_nat hl
  rw [show ((0 : Nat) : Int) = 0 from rfl] at this
  rw [this]
  have h5 : (toL s)[0]? = some (s[0]'hl) := by
    unfold toL
    rw [Array.getElem?_toList]
    exact Array.getElem?_eq_getElem hl
  rw [h] at h5
  have e : b = s[0]'hl := by simpa using h5
  rw [e]
theorem isNum_cons {b : UInt8} {t : Bs} {d : Nat} (hd : t.length + 1 ≤ d) (ha : (b :: t).all digB = true) : isNumL (b :: t) d = (decide (b ≠ 48) || decide (t = [])) := by
  unfold isNumL
  rw [decide_eq_true (show 1 ≤ (b :: t).length by simp), decide_eq_true (show (b :: t).length ≤ d by simpa using hd), ha]
  simp only [Bool.true_and, List.head?_cons, ne_eq, Option.some.injEq, List.length_cons]
  congr 1
  cases t <;> simp
theorem isNumber_at (k : Nat) (s : ByteArray) (d : Nat) (hs : s.size ≤ 140737488355328) (S : List LV) (K : Bool × Unit → List LV → Option R) : G.action_isNumber.fn k (s, (d : Int), ()) S K = K (isNumS s d, ()) S := by
  unfold G.action_isNumber.fn isNumS
  dsimp only
  have el := toL_len s
  by_cases h1 : 1 ≤ s.size
  · rw [ifB_pos (show (s.size : Int) ≥ 1 by omega)]
    by_cases h2 : s.size ≤ d
    · obtain ⟨t, ht, htr⟩ := trim_dig (R := R) k s hs
      rw [ifB_pos (show (s.size : Int) ≤ (d : Int) by omega), htr]
      dsimp only
      rw [ht]
      cases ha : (toL s).all digB with
      | false =>
        have : isNumL (toL s) d = false := by unfold isNumL; rw [ha]; simp
        rw [this]; rfl
      | true =>
        rw [ifB_true]
        cases hb : toL s with
        | nil => rw [hb] at el; simp at el; omega
        | cons b t =>
          have e0 : idxStr s 0 = fun (K : Int → Option R) => K (bt s 0) := by
            funext K
            exact idxStr_nat (i := 0) (by omega) K
          rw [e0]
          dsimp only
          rw [bt_zero hb, isNum_cons (by rw [hb] at el; simp at el; omega) (by rw [← hb]; exact ha)]
          have e1 : ((b.toNat : Int) != 48) = decide (b ≠ 48) := by
            by_cases hq : b = 48
            · subst hq; rfl
            · have h9 : b.toNat ≠ 48 := fun e => hq (UInt8.toNat_inj.1 e)
              have h8 : ((b.toNat : Int) == 48) = false := by rw [beq_eq_false_iff_ne]; omega
              rw [decide_eq_true hq]
              show (!((b.toNat : Int) == 48)) = true
              rw [h8]; rfl
          rw [e1]
          by_cases h48 : b = 48
          · subst h48
            simp only [ne_eq, not_true_eq_false, decide_false, Bool.false_or, ifB_false]
            congr 2
            rw [Bool.eq_iff_iff, strEq_iff, decide_eq_true_eq]
            constructor
            · intro h
              have := congrArg toL h
              rw [hb] at this
              have h3 := congrArg List.tail this
              simpa [bs, toL] using h3
            · intro h
              subst h
              exact toL_inj hb
          · simp [h48]
    · rw [ifB_neg (show ¬ (s.size : Int) ≤ (d : Int) by omega)]
      have : isNumL (toL s) d = false := by unfold isNumL; rw [decide_eq_false (show ¬ (toL s).length ≤ d by omega)]; simp
      rw [this]
  · rw [ifB_neg (show ¬ (s.size : Int) ≥ 1 by omega)]
    have : isNumL (toL s) d = false := by unfold isNumL; rw [decide_eq_false (show ¬ 1 ≤ (toL s).length by omega)]; simp
    rw [this]
theorem atoiAll_num {l : Bs} (h0 : 1 ≤ l.length) (h18 : l.length ≤ 18) (h : l.all digB = true) : Lib.atoiAll l = .ok (valL l : Int) := by
  have key : ∀ (l : Bs) (acc u : Nat), l.all digB = true → Lib.decFrom acc l = some u → u < 1000000000000000000 → Lib.parseUint10 acc l = .ok u := by
    intro l
    induction l with
    | nil => intro acc u _ h _; cases h; rfl
    | cons b t ih =>
      intro acc u ha h hu
      simp only [List.all_cons, Bool.and_eq_true] at ha
      have hb := ha.1
      have hv := digB_val hb
      unfold digB at hb
      simp only [Bool.and_eq_true, decide_eq_true_eq] at hb
      simp only [Lib.decFrom, hv] at h
      have hmono : ∀ (l : Bs) (a u : Nat), Lib.decFrom a l = some u → a ≤ u := by
        intro l
        induction l with
        | nil => intro a u h; cases h; exact Nat.le_refl _
        | cons c t ih =>
          intro a u h
          simp only [Lib.decFrom] at h
          cases hd : Lib.digitVal c with
          | none => rw [hd] at h; cases h
          | some d => rw [hd] at h; have := ih _ _ h; omega
      have h1 := hmono t _ _ h
      have := ih _ u ha.2 h hu
      unfold Lib.parseUint10
      rw [if_pos hb, if_neg (by omega), if_neg (by omega)]
      exact this
  have hv := decFrom_val h
  have hlt := valL_lt h
  have hp : 10 ^ l.length ≤ 10 ^ 18 := Nat.pow_le_pow_right (by decide) h18
  have hu : valL l < 1000000000000000000 := Nat.lt_of_lt_of_le hlt hp
  have hpu := key l 0 _ h hv hu
  cases l with
  | nil => simp at h0
  | cons b t =>
    have hb : digB b = true := by simp only [List.all_cons, Bool.and_eq_true] at h; exact h.1
    unfold digB at hb
    simp only [Bool.and_eq_true, decide_eq_true_eq] at hb
    have hm : Lib.parseMag (b :: t) = .ok (valL (b :: t)) := by
      unfold Lib.parseMag
      simpa using hpu
    unfold Lib.atoiAll
    have e1 : ¬ (b.toNat = 43 ∨ b.toNat = 45) := by omega
    have e2 : ¬ (b.toNat = 45) := by omega
    have hu2 : ¬ (9223372036854775808 ≤ valL (b :: t)) := by omega
    dsimp only
    rw [if_neg e1, hm]
    simp only [e2, hu2, if_false, and_false, false_and]
theorem Atoi_at (k : Nat) {s : ByteArray} {d : Nat} (hd : d ≤ 18) (h : isNumS s d = true) (S : List LV) (K : Int × LV × Unit → List LV → Option R) : H.Atoi.fn k (s, ()) S K = K (numV s, .nili, ()) S := by
  unfold isNumS at h
  rw [isNumL_iff] at h
  obtain ⟨h1, h2, h3, _⟩ := h
  have e : Lib.atoiAll s.data.toList = .ok (valL (toL s) : Int) := atoiAll_num h1 (show (toL s).length ≤ 18 by omega) h3
  unfold H.Atoi.fn atoiF
  dsimp only
  rw [e]
  have hs := toL_len s
  dsimp only
  have h9 : s.size ≤ 9223372036854775806 := by omega
  rw [decide_eq_true h9]
  rfl
end
end Go.Lm
