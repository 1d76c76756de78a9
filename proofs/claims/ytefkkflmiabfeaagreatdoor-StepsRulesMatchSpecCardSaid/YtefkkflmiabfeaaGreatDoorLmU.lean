/- Paths and digests: the program's and the reference's functions answer alike. -/
import Derived.Test.YtefkkflmiabfeaaGreatDoorLmX
import Derived.Test.YtefkkflmiabfeaaGreatDoorLmS
set_option linter.unusedVariables false
set_option linter.unusedSimpArgs false
set_option maxRecDepth 100000
namespace Go.Lm
section
variable {R : Type}
/-- Enough rounds for all that has a size. -/
def Many (k : Nat) : Prop := 281474976710656 ≤ k
def partB (c : Int) : Bool := (decide (c ≥ 97) && decide (c ≤ 122)) || ((decide (c ≥ 65) && decide (c ≤ 90)) || ((decide (c ≥ 48) && decide (c ≤ 57)) || ((c == 46) || ((c == 95) || ((c == 45) || (c == 43))))))

theorem ref_partByte (k : Nat) (c : Int) (S : List LV) (K : Bool × Unit → List LV → Option R) : G.smithyardref1_partByte.fn k (c, ()) S K = K (partB c, ()) S := by
  unfold G.smithyardref1_partByte.fn partB
  dsimp only
  generalize decide (c ≥ 97) = b1
  generalize decide (c ≤ 122) = b2
  generalize decide (c ≥ 65) = b3
  generalize decide (c ≤ 90) = b4
  generalize decide (c ≥ 48) = b5
  generalize decide (c ≤ 57) = b6
  generalize (c == 46) = b7
  generalize (c == 95) = b8
  generalize (c == 45) = b9
  generalize (c == 43) = b10
  cases b1 <;> cases b3 <;> cases b5 <;> (try cases b2) <;> (try cases b4) <;> (try cases b6) <;> (try cases b7) <;> (try cases b8) <;> (try cases b9) <;> rfl
theorem indexByte_part (c : Int) (h0 : 0 ≤ c) (h1 : c < 256) : decide (Lib.indexByte [46, 95, 45, 43] c.toNat.toUInt8 ≥ 0) = ((c == 46) || ((c == 95) || ((c == 45) || (c == 43)))) := by
  have key : ∀ n : Fin 256, decide (Lib.indexByte [46, 95, 45, 43] (n.val.toUInt8) ≥ 0) = (((n.val : Int) == 46) || (((n.val : Int) == 95) || (((n.val : Int) == 45) || ((n.val : Int) == 43)))) := by decide +kernel
  have := key ⟨c.toNat, by omega⟩
  rw [this]
  have e : ((c.toNat : Nat) : Int) = c := by omega
  simp only [e]
theorem prog_inPart (k : Nat) (c : Int) (h0 : 0 ≤ c) (h1 : c < 256) (S : List LV) (K : Bool × Unit → List LV → Option R) : G.blob_inPart.fn k (c, ()) S K = K (partB c, ()) S := by
  have hi : ∀ K' : Int × Unit → List LV → Option R, G.strings_IndexByte.fn k ((bs [46, 95, 45, 43]), c, ()) S K' = K' (Lib.indexByte [46, 95, 45, 43] c.toNat.toUInt8, ()) S := fun K' => rfl
  unfold G.blob_inPart.fn partB
  dsimp only
  simp only [hi]
  rw [indexByte_part c h0 h1]
  generalize ((c == 46) || ((c == 95) || ((c == 45) || (c == 43)))) = b7
  generalize decide (c ≥ 97) = b1
  generalize decide (c ≤ 122) = b2
  generalize decide (c ≥ 65) = b3
  generalize decide (c ≤ 90) = b4
  generalize decide (c ≥ 48) = b5
  generalize decide (c ≤ 57) = b6
  cases b1 <;> cases b3 <;> cases b5 <;> (try cases b2) <;> (try cases b4) <;> (try cases b6) <;> cases b7 <;> rfl

/-- Is it a part of a path? -/
def isPartS (s : ByteArray) : Bool := scan (fun i => match partB (bt s i) with | true => none | false => some false) (!(strEq s (bs [])) && (!(strEq s (bs [46])) && !(strEq s (bs [46, 46])))) s.size 0
theorem fin_part (s : ByteArray) (S : List LV) (K : Bool × Unit → List LV → Option R) : ifB (!(strEq s (bs []))) (ifB (!(strEq s (bs [46]))) (K ((!(strEq s (bs [46, 46]))), ()) S) (K (false, ()) S)) (K (false, ()) S) = K (!(strEq s (bs [])) && (!(strEq s (bs [46])) && !(strEq s (bs [46, 46]))), ()) S := by
  generalize strEq s (bs []) = a
  generalize strEq s (bs [46]) = b
  cases a <;> cases b <;> rfl
theorem ref_isPart {k : Nat} (hk : Many k) (s : ByteArray) (hs : s.size ≤ 140737488355328) (S : List LV) (K : Bool × Unit → List LV → Option R) : G.smithyardref1_isPart.fn k (s, ()) S K = K (isPartS s, ()) S := by
  unfold Many at hk
  unfold G.smithyardref1_isPart.fn isPartS
  refine Eq.trans (rounds_scan0 (fun i => (s, (i : Int), ())) S s.size k (fun i => match partB (bt s i) with | true => none | false => some (K (false, ()) S)) (K (!(strEq s (bs [])) && (!(strEq s (bs [46])) && !(strEq s (bs [46, 46]))), ()) S) (fun rec i hi => ?_) (fun rec => ?_) (by omega)) ?_
  · unfold G.smithyardref1_isPart.b0
    dsimp only
    rw [lt_nat, ifB_pos hi, idxStr_nat hi, ref_partByte, wrap_succ (by omega)]
    cases partB (bt s i) <;> rfl
  · unfold G.smithyardref1_isPart.b0
    dsimp only
    rw [lt_nat, ifB_neg (Nat.lt_irrefl _), fin_part]
  · rw [← scan_map (fun b => K (b, ()) S)]
    refine scan_congr _ _ (fun j _ _ => ?_) rfl
    cases partB (bt s j) <;> rfl
theorem prog_isPart {k : Nat} (hk : Many k) (s : ByteArray) (hs : s.size ≤ 140737488355328) (S : List LV) (K : Bool × Unit → List LV → Option R) : G.blob_isPart.fn k (s, ()) S K = K (isPartS s, ()) S := by
  unfold Many at hk
  unfold G.blob_isPart.fn isPartS
  refine Eq.trans (rounds_scan0 (fun i => (s, (s.size : Int), (i : Int), ())) S s.size k (fun i => match partB (bt s i) with | true => none | false => some (K (false, ()) S)) (K (!(strEq s (bs [])) && (!(strEq s (bs [46])) && !(strEq s (bs [46, 46]))), ()) S) (fun rec i hi => ?_) (fun rec => ?_) (by omega)) ?_
  · unfold G.blob_isPart.b0
    dsimp only
    have hb := bt_lt s i
    rw [lt_nat, ifB_pos hi, idxStr_nat hi, prog_inPart k _ hb.1 hb.2, wrap_succ (by omega)]
    cases partB (bt s i) <;> rfl
  · unfold G.blob_isPart.b0
    dsimp only
    rw [lt_nat, ifB_neg (Nat.lt_irrefl _), fin_part]
  · rw [← scan_map (fun b => K (b, ()) S)]
    refine scan_congr _ _ (fun j _ _ => ?_) rfl
    cases partB (bt s j) <;> rfl

/-- What strings.Split gives at a byte. -/
def partsOf (s : ByteArray) : List ByteArray := Lib.splitB (bs [47]) 0 (Lib.countB s (bs [47])) s
theorem split_at (k : Nat) (s : ByteArray) (hs : s.size < 4294967281) (S : List LV) (K : List LV × Unit → List LV → Option R) : G.strings_Split.fn k (s, (bs [47]), ()) S K = K ((partsOf s).map .str, ()) S := by
  unfold G.strings_Split.fn H.genSplit.fn handF splitF
  dsimp only
  rw [decide_eq_true ⟨rfl, rfl, rfl, hs⟩]
  rfl
theorem splitB_sizes (sep : ByteArray) : ∀ (n : Nat) (s : ByteArray) (p : ByteArray), p ∈ Lib.splitB sep 0 n s → p.size ≤ s.size
  | 0, s, p, h => by
    rw [Lib.splitB_zero] at h
    simp at h; subst h; exact Nat.le_refl _
  | n + 1, s, p, h => by
    unfold Lib.splitB at h
    split at h
    · simp at h; subst h; exact Nat.le_refl _
    · rcases List.mem_cons.1 h with rfl | h
      · simp only [ByteArray.size_extract]; omega
      · refine Nat.le_trans (splitB_sizes sep n _ p h) ?_
        simp only [ByteArray.size_extract]; omega
theorem splitB_len (sep : ByteArray) : ∀ (n : Nat) (s : ByteArray), (Lib.splitB sep 0 n s).length ≤ n + 1
  | 0, s => by rw [Lib.splitB_zero]; simp
  | n + 1, s => by
    unfold Lib.splitB
    split
    · simp
    · have := splitB_len sep n (s.extract ((Lib.indexB s sep).toNat + sep.size) s.size)
      simp only [List.length_cons]; omega
def isPathS (s : ByteArray) : Bool := decide (1 ≤ s.size) && (decide (s.size ≤ 200) && (partsOf s).all isPartS)
theorem all_scan (l : List ByteArray) : l.all isPartS = scan (fun i => match isPartS (l.getD i (bs [])) with | true => none | false => some false) true l.length 0 := by
  have : ∀ (d i : Nat), i + d = l.length → (l.drop i).all isPartS = scan (fun i => match isPartS (l.getD i (bs [])) with | true => none | false => some false) true d i := by
    intro d
    induction d with
    | zero => intro i hi; rw [List.drop_eq_nil_of_le (by omega)]; rfl
    | succ d ih =>
      intro i hi
      have hlt : i < l.length := by omega
      rw [List.drop_eq_getElem_cons hlt, List.all_cons]
      simp only [scan]
      rw [List.getD_eq_getElem?_getD, List.getElem?_eq_getElem hlt, Option.getD_some]
      cases isPartS l[i] with
      | true => simp only [Bool.true_and]; exact ih (i + 1) (by omega)
      | false => rfl
  simpa using this l.length 0 (by omega)
theorem map_str_get (l : List ByteArray) (i : Nat) (h : i < l.length) : (l.map LV.str).getD i .any = .str (l.getD i (bs [])) := by
  simp [List.getD_eq_getElem?_getD, h]
theorem partsOf_len (s : ByteArray) (hs : s.size ≤ 200) : (partsOf s).length ≤ 201 + 1 := by
  have h1 := splitB_len (bs [47]) (Lib.countB s (bs [47])) s
  have h2 := Lib.countB_le (bs [47]) (Nat.le_refl 1) s.size s (Nat.le_refl _)
  unfold partsOf
  omega
theorem partsOf_size (s : ByteArray) (i : Nat) (h : i < (partsOf s).length) : ((partsOf s).getD i (bs [])).size ≤ s.size := by
  refine splitB_sizes (bs [47]) (Lib.countB s (bs [47])) s _ ?_
  rw [List.getD_eq_getElem?_getD, List.getElem?_eq_getElem h]
  exact List.getElem_mem h
theorem ref_IsPath {k : Nat} (hk : Many k) (s : ByteArray) (S : List LV) (K : Bool × Unit → List LV → Option R) : G.smithyardref1_IsPath.fn k (s, ()) S K = K (isPathS s, ()) S := by
  have hk' := hk
  unfold Many at hk'
  unfold G.smithyardref1_IsPath.fn isPathS G.smithyardref1_within.fn
  dsimp only
  by_cases h1 : 1 ≤ s.size
  · by_cases h2 : s.size ≤ 200
    · rw [ifB_pos (show (s.size : Int) ≥ 1 by omega), decide_eq_true (show (s.size : Int) ≤ 200 by omega), decide_eq_true h1, decide_eq_true h2]
      simp only [Bool.not_true, ifB_false, Bool.true_and]
      have hl := partsOf_len s h2
      rw [split_at k s (by omega)]
      dsimp only
      refine Eq.trans (rounds_scan0 (fun i => ((partsOf s).map LV.str, (i : Int), ())) S (partsOf s).length k (fun i => match isPartS ((partsOf s).getD i (bs [])) with | true => none | false => some (K (false, ()) S)) (K (true, ()) S) (fun rec i hi => ?_) (fun rec => ?_) (by omega)) ?_
      · unfold G.smithyardref1_IsPath.b0
        dsimp only
        have hsz := partsOf_size s i hi
        rw [List.length_map, lt_nat, ifB_pos hi, idxL_nat (by simpa using hi), map_str_get _ _ hi]
        show asStr (.str _) _ = _
        rw [asStr_str, ref_isPart hk _ (by omega), wrap_succ (by omega)]
        cases isPartS ((partsOf s).getD i (bs [])) <;> rfl
      · unfold G.smithyardref1_IsPath.b0
        dsimp only
        rw [List.length_map, lt_nat, ifB_neg (Nat.lt_irrefl _)]
      · rw [all_scan, ← scan_map (fun b => K (b, ()) S)]
        refine scan_congr _ _ (fun j _ _ => ?_) rfl
        cases isPartS ((partsOf s).getD j (bs [])) <;> rfl
    · rw [ifB_pos (show (s.size : Int) ≥ 1 by omega), decide_eq_false (show ¬ (s.size : Int) ≤ 200 by omega), decide_eq_false h2]
      simp
  · rw [ifB_neg (show ¬ (s.size : Int) ≥ 1 by omega), decide_eq_false h1]
    simp
theorem prog_IsPath {k : Nat} (hk : Many k) (s : ByteArray) (S : List LV) (K : Bool × Unit → List LV → Option R) : G.blob_IsPath.fn k (s, ()) S K = K (isPathS s, ()) S := by
  have hk' := hk
  unfold Many at hk'
  unfold G.blob_IsPath.fn isPathS
  dsimp only
  by_cases h1 : 1 ≤ s.size
  · rw [ifB_neg (show ¬ (s.size : Int) < 1 by omega), decide_eq_true h1]
    by_cases h2 : s.size ≤ 200
    · rw [ifB_neg (show ¬ (s.size : Int) > 200 by omega), decide_eq_true h2]
      simp only [Bool.true_and]
      have hl := partsOf_len s h2
      rw [split_at k s (by omega)]
      dsimp only
      rw [List.length_map]
      refine Eq.trans (rounds_scan0 (fun i => ((partsOf s).map LV.str, ((partsOf s).length : Int), (i : Int), ())) S (partsOf s).length k (fun i => match isPartS ((partsOf s).getD i (bs [])) with | true => none | false => some (K (false, ()) S)) (K (true, ()) S) (fun rec i hi => ?_) (fun rec => ?_) (by omega)) ?_
      · unfold G.blob_IsPath.b0
        dsimp only
        have hsz := partsOf_size s i hi
        rw [lt_nat, ifB_pos hi, idxL_nat (by simpa using hi), map_str_get _ _ hi]
        show asStr (.str _) _ = _
        rw [asStr_str, prog_isPart hk _ (by omega), wrap_succ (by omega)]
        cases isPartS ((partsOf s).getD i (bs [])) <;> rfl
      · unfold G.blob_IsPath.b0
        dsimp only
        rw [lt_nat, ifB_neg (Nat.lt_irrefl _)]
      · rw [all_scan, ← scan_map (fun b => K (b, ()) S)]
        refine scan_congr _ _ (fun j _ _ => ?_) rfl
        cases isPartS ((partsOf s).getD j (bs [])) <;> rfl
    · rw [ifB_pos (show (s.size : Int) > 200 by omega), decide_eq_false h2]
      simp
  · rw [ifB_pos (show (s.size : Int) < 1 by omega), decide_eq_false h1]
    simp
end
end Go.Lm

/- Digests' form, looks: the program's and the reference's functions answer alike. -/
set_option maxRecDepth 100000
namespace Go.Lm
section
variable {R : Type}
def hexB (c : Int) : Bool := (decide (c ≥ 48) && decide (c ≤ 57)) || (decide (c ≥ 97) && decide (c ≤ 102))
theorem ba_len (s : ByteArray) : s.data.toList.length = s.size := by rw [Array.length_toList]; rfl
def isDigestS (s : ByteArray) : Bool := s.data.toList.all (fun b => hexB (b.toNat : Int)) && ((s.size : Int) == 16)
theorem all_bytes (s : ByteArray) (f : Int → Bool) : s.data.toList.all (fun b => f (b.toNat : Int)) = scan (fun i => match f (bt s i) with | true => none | false => some false) true s.size 0 := by
  have : ∀ (d i : Nat), i + d = s.size → (s.data.toList.drop i).all (fun b => f (b.toNat : Int)) = scan (fun i => match f (bt s i) with | true => none | false => some false) true d i := by
    intro d
    induction d with
    | zero => intro i hi; rw [List.drop_eq_nil_of_le (by rw [ba_len]; omega)]; rfl
    | succ d ih =>
      intro i hi
      have hlt : i < s.size := by omega
      have hlt' : i < s.data.toList.length := by rw [ba_len]; exact hlt
      rw [List.drop_eq_getElem_cons hlt', List.all_cons]
      simp only [scan]
      have e : bt s i = ((s.data.toList[i]).toNat : Int) := by rw [bt_nat hlt]; rfl
      rw [e]
      cases f ((s.data.toList[i]).toNat : Int) with
      | true => simp only [Bool.true_and]; exact ih (i + 1) (by omega)
      | false => rfl
  simpa using this s.size 0 (by omega)
theorem ref_IsDigest {k : Nat} (hk : Many k) (s : ByteArray) (hs : s.size ≤ 140737488355328) (S : List LV) (K : Bool × Unit → List LV → Option R) : G.smithyardref1_IsDigest.fn k (s, ()) S K = K (isDigestS s, ()) S := by
  unfold Many at hk
  unfold G.smithyardref1_IsDigest.fn isDigestS
  refine Eq.trans (rounds_scan0 (fun i => (s, (i : Int), ())) S s.size k (fun i => match hexB (bt s i) with | true => none | false => some (K (false, ()) S)) (K (((s.size : Int) == 16), ()) S) (fun rec i hi => ?_) (fun rec => ?_) (by omega)) ?_
  · unfold G.smithyardref1_IsDigest.b0 G.smithyardref1_IsDigest.q0 hexB
    dsimp only
    rw [lt_nat, ifB_pos hi]
    simp only [idxStr_nat hi, wrap_succ (show i < 9223372036854775807 by omega)]
    generalize decide (bt s i ≥ 48) = b1
    generalize decide (bt s i ≤ 57) = b2
    generalize decide (bt s i ≥ 97) = b3
    generalize decide (bt s i ≤ 102) = b4
    cases b1 <;> cases b2 <;> cases b3 <;> cases b4 <;> rfl
  · unfold G.smithyardref1_IsDigest.b0
    dsimp only
    rw [lt_nat, ifB_neg (Nat.lt_irrefl _)]
  · rw [all_bytes]
    generalize hz : ((s.size : Int) == 16) = z
    have : ∀ (d i : Nat), scan (fun i => match hexB (bt s i) with | true => none | false => some (K (false, ()) S)) (K (z, ()) S) d i = K (scan (fun i => match hexB (bt s i) with | true => none | false => some false) true d i && z, ()) S := by
      intro d
      induction d with
      | zero => intro i; rfl
      | succ d ih =>
        intro i
        simp only [scan]
        cases hexB (bt s i) with
        | true => exact ih (i + 1)
        | false => rfl
    exact this _ _
theorem dropWhile_nil {α : Type} (p : α → Bool) : ∀ (l : List α), l.dropWhile p = [] ↔ ∀ x, x ∈ l → p x = true
  | [] => by simp
  | x :: l => by
    rw [List.dropWhile_cons]
    cases h : p x with
    | true => simp [h, dropWhile_nil p l]
    | false => simp [h]
theorem dropWhile_head {α : Type} (p : α → Bool) : ∀ (l : List α) (x : α) (xs : List α), l.dropWhile p = x :: xs → p x = false
  | [], x, xs, h => by simp at h
  | y :: l, x, xs, h => by
    rw [List.dropWhile_cons] at h
    cases hy : p y with
    | true => rw [hy] at h; exact dropWhile_head p l x xs (by simpa using h)
    | false => rw [hy] at h; simp at h; rw [← h.1]; exact hy
theorem trim_nil (l cs : List UInt8) : Lib.trimS l cs = [] ↔ l.all (fun b => cs.contains b) = true := by
  unfold Lib.trimS Lib.trimLeftS
  rw [dropWhile_nil]
  constructor
  · intro h
    have hr : Lib.trimRightS l cs = [] := by
      unfold Lib.trimRightS at h ⊢
      cases hd : l.reverse.dropWhile (cs.contains ·) with
      | nil => rfl
      | cons x xs =>
        exfalso
        have h1 := h x (by rw [hd]; simp)
        have h2 := dropWhile_head _ _ _ _ hd
        rw [h1] at h2; cases h2
    unfold Lib.trimRightS at hr
    have hr' : l.reverse.dropWhile (cs.contains ·) = [] := by simpa using hr
    rw [dropWhile_nil] at hr'
    rw [List.all_eq_true]
    intro x hx
    exact hr' x (by simpa using hx)
  · intro h x hx
    rw [List.all_eq_true] at h
    unfold Lib.trimRightS at hx
    exact h x (by
      have := List.mem_reverse.1 hx
      have := (List.dropWhile_sublist _).subset this
      simpa using this)
theorem prog_IsDigest {k : Nat} (s : ByteArray) (S : List LV) (K : Bool × Unit → List LV → Option R) : G.blob_IsDigest.fn k (s, ()) S K = K (isDigestS s, ()) S := by
  unfold G.blob_IsDigest.fn isDigestS
  dsimp only
  cases hz : ((s.size : Int) == 16) with
  | false => simp
  | true =>
    have h16 : s.size = 16 := by have := beq_iff_eq.1 hz; omega
    rw [ifB_true, Bool.and_true]
    unfold H.Trim.fn handF trimF
    dsimp only
    have : (decide (s.size ≤ 9223372036854775807) && decide ((bs [48, 49, 50, 51, 52, 53, 54, 55, 56, 57, 97, 98, 99, 100, 101, 102]).size < 4294967281) && (bs [48, 49, 50, 51, 52, 53, 54, 55, 56, 57, 97, 98, 99, 100, 101, 102]).data.toList.all (fun b => decide (b.toNat < 128))) = true := by
      rw [decide_eq_true (by omega)]; decide +kernel
    rw [this]
    dsimp only
    congr 2
    rw [Bool.eq_iff_iff, strEq_iff]
    constructor
    · intro h
      have h2 : Lib.trimS s.data.toList (bs [48, 49, 50, 51, 52, 53, 54, 55, 56, 57, 97, 98, 99, 100, 101, 102]).data.toList = [] := by
        have := congrArg (fun b : ByteArray => b.data.toList) h
        simpa [bs] using this
      rw [trim_nil] at h2
      rw [List.all_eq_true] at h2 ⊢
      intro b hb
      have h3 := h2 b hb
      have key : ∀ n : Fin 256, (bs [48, 49, 50, 51, 52, 53, 54, 55, 56, 57, 97, 98, 99, 100, 101, 102]).data.toList.contains (n.val.toUInt8) = true → hexB (n.val : Int) = true := by decide +kernel
      have := key ⟨b.toNat, b.toNat_lt⟩
      simp only [Nat.toUInt8, UInt8.ofNat_toNat] at this
      exact this h3
    · intro h
      have h2 : Lib.trimS s.data.toList (bs [48, 49, 50, 51, 52, 53, 54, 55, 56, 57, 97, 98, 99, 100, 101, 102]).data.toList = [] := by
        rw [trim_nil, List.all_eq_true]
        rw [List.all_eq_true] at h
        intro b hb
        have h3 := h b hb
        have key : ∀ n : Fin 256, hexB (n.val : Int) = true → (bs [48, 49, 50, 51, 52, 53, 54, 55, 56, 57, 97, 98, 99, 100, 101, 102]).data.toList.contains (n.val.toUInt8) = true := by decide +kernel
        have := key ⟨b.toNat, b.toNat_lt⟩
        simp only [Nat.toUInt8, UInt8.ofNat_toNat] at this
        exact this h3
      rw [h2]; rfl

/-! ### Looks -/
structure Look where
  p : ByteArray
  d : ByteArray
  r : Bool
def Look.lv (x : Look) : LV := .agg [.str x.p, .str x.d, .bool x.r]
/-- What is wrong with a look at a place. -/
def lookS (l : List Look) (i : Nat) : Option Int :=
  let x := l.getD i ⟨bs [], bs [], false⟩
  match !(isPathS x.p) with
  | true => some 3
  | false => match (!(strEq x.d (bs [])) && !(isDigestS x.d)) || (strEq x.d (bs []) && x.r) with
    | true => some 3
    | false => match decide (0 < i) && (strLt x.p (l.getD (i - 1) ⟨bs [], bs [], false⟩).p || strEq x.p (l.getD (i - 1) ⟨bs [], bs [], false⟩).p) with
      | true => some 8
      | false => none
def checkLooksS (l : List Look) : Int := match decide (l.length > 4000) with
  | true => 2
  | false => scan (lookS l) 0 l.length 0
theorem look_get (l : List Look) (i : Nat) (h : i < l.length) : (l.map Look.lv).getD i .any = (l.getD i ⟨bs [], bs [], false⟩).lv := by
  simp [List.getD_eq_getElem?_getD, h]
theorem Look.mat (x : Look) (K : List LV → Option R) : mat 3 x.lv K = K [.str x.p, .str x.d, .bool x.r] := rfl
theorem gt_nat (i n : Nat) : decide ((i : Int) > (n : Int)) = decide (i > n) := by simp
theorem prog_CheckLooks {k : Nat} (hk : Many k) (l : List Look) (S : List LV) (K : Int × Unit → List LV → Option R) : G.action_CheckLooks.fn k (l.map Look.lv, ()) S K = K (checkLooksS l, ()) S := by
  have hk' := hk
  unfold Many at hk'
  unfold G.action_CheckLooks.fn checkLooksS
  dsimp only
  rw [List.length_map, show ((4000 : Int)) = ((4000 : Nat) : Int) from rfl, gt_nat]
  cases hc : decide (l.length > 4000) with
  | true => rfl
  | false =>
    have hlen : l.length ≤ 4000 := by have := of_decide_eq_false hc; omega
    rw [ifB_false]
    dsimp only
    rw [← scan_map (fun n => K (n, ()) S)]
    refine rounds_scan0 (fun i => (l.map Look.lv, l.map Look.lv, (l.length : Int), (i : Int), ())) S l.length k _ _ (fun rec i hi => ?_) (fun rec => ?_) (by omega)
    · unfold G.action_CheckLooks.b0 G.action_CheckLooks.q0 G.action_CheckLooks.q1
      dsimp only
      rw [lt_nat, ifB_pos hi, idxL_nat (by simpa using hi), look_get _ _ hi]
      rw [Look.mat]
      simp only [List.getD_cons_zero, List.getD_cons_succ, asStr_str, asBool_bool]
      rw [prog_IsPath hk]
      dsimp only
      have hprev : ∀ (h0 : 0 < i) (K' : LV → Option R), idxL (l.map Look.lv) (IntKind.wrap .i64 ((i : Int) - 1)) K' = K' (l.getD (i - 1) ⟨bs [], bs [], false⟩).lv := fun h0 K' => by
        rw [wrap_pred h0 (by omega), idxL_nat (by simp; omega), look_get _ _ (by omega)]
      have htail : ∀ (J : Option R), ifB (decide ((i : Int) > 0)) (idxL (l.map Look.lv) (IntKind.wrap .i64 ((i : Int) - 1)) fun v8 => asStr (leaf v8 0) fun s9 => ifB (strLt (l.getD i ⟨bs [], bs [], false⟩).p s9 || strEq (l.getD i ⟨bs [], bs [], false⟩).p s9) (K (8, ()) S) J) J =
          match decide (0 < i) && (strLt (l.getD i ⟨bs [], bs [], false⟩).p (l.getD (i - 1) ⟨bs [], bs [], false⟩).p || strEq (l.getD i ⟨bs [], bs [], false⟩).p (l.getD (i - 1) ⟨bs [], bs [], false⟩).p) with | true => K (8, ()) S | false => J := fun J => by
        by_cases h0 : 0 < i
        · rw [ifB_pos (show (i : Int) > 0 by omega), hprev h0, decide_eq_true h0]
          show ifB _ _ _ = _
          simp only [Bool.true_and]
          cases (strLt (l.getD i ⟨bs [], bs [], false⟩).p (l.getD (i - 1) ⟨bs [], bs [], false⟩).p || strEq (l.getD i ⟨bs [], bs [], false⟩).p (l.getD (i - 1) ⟨bs [], bs [], false⟩).p) <;> rfl
        · rw [ifB_neg (show ¬ (i : Int) > 0 by omega), decide_eq_false h0]; rfl
      have hwrap := wrap_succ (show i < 9223372036854775807 by omega)
      have hdig := fun (K' : Bool × Unit → List LV → Option R) => prog_IsDigest (k := k) (l.getD i ⟨bs [], bs [], false⟩).d S K'
      simp only [hdig, hwrap, htail]
      unfold lookS
      dsimp only
      generalize (decide (0 < i) && (strLt (l.getD i ⟨bs [], bs [], false⟩).p (l.getD (i - 1) ⟨bs [], bs [], false⟩).p || strEq (l.getD i ⟨bs [], bs [], false⟩).p (l.getD (i - 1) ⟨bs [], bs [], false⟩).p)) = b5
      generalize isPathS (l.getD i ⟨bs [], bs [], false⟩).p = b1
      generalize strEq (l.getD i ⟨bs [], bs [], false⟩).d (bs []) = b2
      generalize isDigestS (l.getD i ⟨bs [], bs [], false⟩).d = b3
      generalize (l.getD i ⟨bs [], bs [], false⟩).r = b4
      cases b1 <;> cases b2 <;> cases b3 <;> cases b4 <;> cases b5 <;> rfl
    · unfold G.action_CheckLooks.b0
      dsimp only
      rw [lt_nat, ifB_neg (Nat.lt_irrefl _)]
end
end Go.Lm

/- Orders of strings, searching in order; files. -/
set_option maxRecDepth 100000
namespace Go.Lm
section
variable {R : Type}
/-! ### The order of strings -/
theorem less_irrefl : ∀ (a : List UInt8), Op.bytesLess a a = false
  | [] => rfl
  | x :: a => by simp [Op.bytesLess, less_irrefl a]
theorem less_trans : ∀ (a b c : List UInt8), Op.bytesLess a b = true → Op.bytesLess b c = true → Op.bytesLess a c = true
  | _, [], _, h, _ => by cases ‹List UInt8› <;> simp [Op.bytesLess] at h
  | _, _ :: _, [], _, h => by simp [Op.bytesLess] at h
  | [], _ :: _, _ :: _, _, _ => rfl
  | x :: a, y :: b, z :: c, h1, h2 => by
    simp only [Op.bytesLess, Bool.or_eq_true, Bool.and_eq_true, decide_eq_true_eq, beq_iff_eq] at *
    rcases h1 with h1 | ⟨rfl, h1⟩ <;> rcases h2 with h2 | ⟨rfl, h2⟩
    · exact .inl (UInt8.lt_trans h1 h2)
    · exact .inl h1
    · exact .inl h2
    · exact .inr ⟨rfl, less_trans a b c h1 h2⟩
theorem less_total : ∀ (a b : List UInt8), Op.bytesLess a b = false → a ≠ b → Op.bytesLess b a = true
  | [], [], _, h => absurd rfl h
  | [], _ :: _, h, _ => by simp [Op.bytesLess] at h
  | _ :: _, [], _, _ => rfl
  | x :: a, y :: b, h, hne => by
    simp only [Op.bytesLess, Bool.or_eq_false_iff, Bool.and_eq_false_iff, decide_eq_false_iff_not, beq_eq_false_iff_ne] at h
    simp only [Op.bytesLess, Bool.or_eq_true, Bool.and_eq_true, decide_eq_true_eq, beq_iff_eq]
    by_cases e : x = y
    · subst e
      have h2 := h.2.resolve_left (fun h => h rfl)
      exact .inr ⟨rfl, less_total a b h2 (fun e => hne (by rw [e]))⟩
    · left
      have h1 : ¬ x.toNat < y.toNat := fun h' => h.1 (UInt8.lt_iff_toNat_lt.2 h')
      have h2 : x.toNat ≠ y.toNat := fun h' => e (UInt8.toNat_inj.1 h')
      exact UInt8.lt_iff_toNat_lt.2 (by omega)
theorem strLt_less (a b : ByteArray) : strLt a b = Op.bytesLess a.data.toList b.data.toList := by unfold strLt; rw [baList, baList]
theorem strLt_irrefl (a : ByteArray) : strLt a a = false := by rw [strLt_less, less_irrefl]
theorem strLt_trans {a b c : ByteArray} (h : strLt a b = true) (h' : strLt b c = true) : strLt a c = true := by rw [strLt_less] at *; exact less_trans _ _ _ h h'
theorem ba_ext {a b : ByteArray} (h : a.data.toList = b.data.toList) : a = b := by
  have := Array.ext' h
  cases a; cases b; simp_all
theorem strLt_total {a b : ByteArray} (h : (strLt a b || strEq a b) = false) : strLt b a = true := by
  rw [Bool.or_eq_false_iff] at h
  rw [strLt_less] at *
  refine less_total _ _ h.1 (fun e => ?_)
  have := ba_ext e
  have h2 := (strEq_iff a b).2 this
  rw [h2] at h; cases h.2

/-! ### Files -/
structure File where
  p : ByteArray
  r : Bool
  b : ByteArray
  nil : Bool
  h : nil = true → b = bs []
def File.leaf (x : File) : LV := match x.nil with
  | true => .nilsl
  | false => .sl 1 (bytesL x.b)
def File.lv (x : File) : LV := .agg [.str x.p, .bool x.r, x.leaf]
def File.zero : File := ⟨bs [], false, bs [], true, fun _ => rfl⟩
theorem File.mat (x : File) (K : List LV → Option R) : mat 3 x.lv K = K [.str x.p, .bool x.r, x.leaf] := rfl
theorem File.sl (x : File) (K : List LV → Option R) : asSl 1 x.leaf K = K (bytesL x.b) := by
  unfold File.leaf
  cases h : x.nil with
  | true => rw [x.h h]; rfl
  | false => exact asSl_sl _ _ _
theorem bytesL_len (b : ByteArray) : (bytesL b).length = b.size := by unfold bytesL; rw [List.length_map, ba_len]
theorem file_get (l : List File) (i : Nat) (h : i < l.length) : (l.map File.lv).getD i .any = (l.getD i .zero).lv := by
  simp [List.getD_eq_getElem?_getD, h]
theorem file_mem (l : List File) (i : Nat) (h : i < l.length) : l.getD i .zero ∈ l := by
  rw [List.getD_eq_getElem?_getD, List.getElem?_eq_getElem h]; exact List.getElem_mem h
def memB (l : List File) (s : ByteArray) : Bool := l.any fun x => strEq x.p s
/-! ### Searching in what is in order -/
/-! ### Clashes -/
def clashB (l : List File) (p : ByteArray) : Bool := scan (fun i => match (bt p i == 47) && memB l (p.extract 0 i) with | true => some true | false => none) false p.size 0
theorem mpAt_at {S : List LV} {m : List (LV × LV)} {T : List LV} (K : List (LV × LV) → Option R) : mpAt (S ++ .mp .str m :: T) S.length .str K = K m := by
  unfold mpAt
  have : (S ++ .mp .str m :: T).getD S.length .any = .mp .str m := by simp [List.getD_eq_getElem?_getD]
  rw [this]
  rfl
/-- The map of the paths of the first files. -/
def hasM (l : List File) : Nat → List (LV × LV)
  | 0 => []
  | i + 1 => mapPut (hasM l i) (.str (l.getD i .zero).p) (.bool true)
theorem mapGet_put (m : List (LV × LV)) (a b : ByteArray) (v : LV) (hm : ∀ e, e ∈ m → ∃ s, e.1 = .str s) : mapGet (mapPut m (.str a) v) (.str b) = match decide (a = b) with | true => some v | false => mapGet m (.str b) := by
  induction m with
  | nil => simp only [mapPut, mapGet, keyEq]; cases decide (a = b) <;> rfl
  | cons e m ih =>
    obtain ⟨k, y⟩ := e
    obtain ⟨s, hs⟩ := hm (k, y) (by simp)
    simp only at hs
    subst hs
    simp only [mapPut, keyEq]
    by_cases h1 : s = a
    · subst h1
      simp only [decide_true, mapGet, keyEq]
      by_cases h2 : s = b
      · subst h2; simp
      · simp [h2]
    · simp only [decide_eq_false h1, mapGet, keyEq]
      by_cases h2 : s = b
      · subst h2
        simp [Ne.symm h1]
      · simp only [decide_eq_false h2]
        exact ih (fun e he => hm e (by simp [he]))
theorem hasM_keys (l : List File) : ∀ i e, e ∈ hasM l i → ∃ s, e.1 = .str s := by
  intro i
  induction i with
  | zero => intro e he; simp [hasM] at he
  | succ i ih =>
    have : ∀ (m : List (LV × LV)) (a : ByteArray) (v : LV), (∀ e, e ∈ m → ∃ s, e.1 = LV.str s) → ∀ e, e ∈ mapPut m (.str a) v → ∃ s, e.1 = .str s := by
      intro m a v
      induction m with
      | nil => intro _ e he; simp [mapPut] at he; exact ⟨a, by rw [he]⟩
      | cons x m ih2 =>
        intro hm e he
        obtain ⟨k, y⟩ := x
        simp only [mapPut] at he
        split at he
        · rcases List.mem_cons.1 he with rfl | he
          · exact hm (k, y) (by simp)
          · exact hm e (by simp [he])
        · rcases List.mem_cons.1 he with rfl | he
          · exact hm (k, y) (by simp)
          · exact ih2 (fun e he => hm e (by simp [he])) e he
    exact this _ _ _ ih
theorem hasM_get (l : List File) (s : ByteArray) : ∀ i, i ≤ l.length → (mapGet (hasM l i) (.str s)).getD (.bool false) = .bool (memB (l.take i) s) := by
  intro i
  induction i with
  | zero => intro _; simp [hasM, mapGet, memB]
  | succ i ih =>
    intro hi
    simp only [hasM]
    rw [mapGet_put _ _ _ _ (hasM_keys l i)]
    have ht : l.take (i + 1) = l.take i ++ [l.getD i .zero] := by
      rw [List.take_add_one, List.getD_eq_getElem?_getD, List.getElem?_eq_getElem (by omega : i < l.length)]; rfl
    have hm : memB (l.take (i + 1)) s = (memB (l.take i) s || strEq (l.getD i .zero).p s) := by
      rw [ht]; unfold memB; rw [List.any_append]; simp
    rw [hm, strEq_dec]
    cases decide ((l.getD i .zero).p = s) with
    | true => simp
    | false => simp only [Bool.or_false]; exact ih (by omega)
theorem prog_clashes {k : Nat} (hk : Many k) (l : List File) (p : ByteArray) (hp : p.size ≤ 140737488355328) (S T : List LV) (K : Bool × Unit → List LV → Option R) :
    G.blob_clashes.fn k (S.length, p, ()) (S ++ .mp .str (hasM l l.length) :: T) K = K (clashB l p, ()) (S ++ .mp .str (hasM l l.length) :: T) := by
  unfold Many at hk
  unfold G.blob_clashes.fn clashB
  rw [← scan_map (fun b => K (b, ()) (S ++ .mp .str (hasM l l.length) :: T))]
  refine rounds_scan0 (fun i => (S.length, p, (p.size : Int), (i : Int), ())) _ p.size k _ _ (fun rec i hi => ?_) (fun rec => ?_) (by omega)
  · unfold G.blob_clashes.b0
    dsimp only
    rw [lt_nat, ifB_pos hi, idxStr_nat hi, slStr_nat (by omega), mpAt_at, hasM_get l _ _ (Nat.le_refl _), List.take_length, asBool_bool, wrap_succ (by omega)]
    generalize (bt p i == 47) = b1
    generalize memB l (p.extract 0 i) = b2
    cases b1 <;> cases b2 <;> rfl
  · unfold G.blob_clashes.b0
    dsimp only
    rw [lt_nat, ifB_neg (Nat.lt_irrefl _)]

/-! ### What is wrong with files -/
def sumB (l : List File) : Nat → Nat
  | 0 => 0
  | i + 1 => sumB l i + (l.getD i .zero).b.size
def fileS (l : List File) (i : Nat) : Option Int :=
  match !(isPathS (l.getD i .zero).p) with
  | true => some 3
  | false => match decide ((l.getD i .zero).b.size > 100000) with
    | true => some 2
    | false => match decide (0 < i) && (strLt (l.getD i .zero).p (l.getD (i - 1) .zero).p || strEq (l.getD i .zero).p (l.getD (i - 1) .zero).p) with
      | true => some 8
      | false => none
def clashS (l : List File) (i : Nat) : Option Int := match clashB l (l.getD i .zero).p with
  | true => some 12
  | false => none
def checkFilesS (l : List File) : Int := match decide (l.length > 1000) with
  | true => 2
  | false => scan (fileS l) (scan (clashS l) (match decide (sumB l l.length > 2000000) with | true => 2 | false => 0) l.length 0) l.length 0
theorem sumB_le (l : List File) (hb : ∀ x ∈ l, x.b.size ≤ 140737488355328) : ∀ i, i ≤ l.length → sumB l i ≤ i * 140737488355328 := by
  intro i
  induction i with
  | zero => intro _; simp [sumB]
  | succ i ih =>
    intro hi
    have h1 := ih (by omega)
    have h2 := hb _ (file_mem l i (by omega))
    simp only [sumB]
    rw [Nat.succ_mul]; omega
structure FilesOk (l : List File) : Prop where
  n : l.length ≤ 140737488355328
  b : ∀ x ∈ l, x.b.size ≤ 140737488355328
  p : ∀ x ∈ l, x.p.size ≤ 140737488355328
theorem setLast (S : List LV) (a b : LV) : (S ++ [a]).set S.length b = S ++ [b] := by
  rw [List.set_append_right _ _ (Nat.le_refl _), Nat.sub_self]; rfl
theorem scan_pred {β : Type} {P : β → Prop} {step : Nat → Option β} {fin : β} (hs : ∀ j r, step j = some r → P r) (hf : P fin) : ∀ (d i : Nat), P (scan step fin d i)
  | 0, _ => hf
  | d + 1, i => by
    simp only [scan]
    cases h : step i with
    | some r => exact hs i r h
    | none => exact scan_pred hs hf d (i + 1)
theorem prog_CheckFiles0 {k : Nat} (hk : Many k) (l : List File) (ok : FilesOk l) (S : List LV) : ∃ G', ∀ {R : Type} (K : Int × Unit → List LV → Option R), G.blob_CheckFiles.fn0 k (l.map File.lv, ()) S K = K (checkFilesS l, ()) (S ++ G') := by
  have hk' := hk
  unfold Many at hk'
  unfold checkFilesS
  cases hc : decide (l.length > 1000) with
  | true =>
    refine ⟨[], fun {R} K => ?_⟩
    unfold G.blob_CheckFiles.fn0
    dsimp only
    rw [List.length_map, show ((1000 : Int)) = ((1000 : Nat) : Int) from rfl, gt_nat, hc, List.append_nil]; rfl
  | false =>
    have hlen : l.length ≤ 1000 := by have := of_decide_eq_false hc; omega
    let code : Int × List LV := scan (fun i => (fileS l i).map fun n => (n, S ++ [.mp .str (hasM l i)])) (scan (clashS l) (match decide (sumB l l.length > 2000000) with | true => 2 | false => 0) l.length 0, S ++ [.mp .str (hasM l l.length)]) l.length 0
    have hfst : code.1 = scan (fileS l) (scan (clashS l) (match decide (sumB l l.length > 2000000) with | true => 2 | false => 0) l.length 0) l.length 0 := by
      show Prod.fst (scan _ _ _ _) = _
      rw [← scan_map Prod.fst]
      refine scan_congr _ _ (fun j _ _ => ?_) rfl
      cases fileS l j <;> rfl
    have hsnd : ∃ G', code.2 = S ++ G' := scan_pred (P := fun r : Int × List LV => ∃ G', r.2 = S ++ G') (fun j r h => by
      cases hj : fileS l j with
      | none => rw [hj] at h; cases h
      | some n => rw [hj] at h; cases h; exact ⟨_, rfl⟩) ⟨_, rfl⟩ _ _
    obtain ⟨G', hG⟩ := hsnd
    refine ⟨G', fun {R} K => ?_⟩
    rw [← hG]
    dsimp only
    rw [← hfst]
    unfold G.blob_CheckFiles.fn0
    dsimp only
    rw [List.length_map, show ((1000 : Int)) = ((1000 : Nat) : Int) from rfl, gt_nat, hc, ifB_false]
    refine Eq.trans ?_ (scan_map (fun r : Int × List LV => K (r.1, ()) r.2) l.length 0)
    unfold newObj
    refine rounds_scan (fun i => (l.map File.lv, (sumB l i : Int), S.length, l.map File.lv, (l.length : Int), (i : Int), ())) (fun i => S ++ [.mp .str (hasM l i)]) l.length _ _ (fun rec i hi => ?_) (fun rec => ?_) l.length 0 k (by omega) (by omega)
    · unfold G.blob_CheckFiles.b0 G.blob_CheckFiles.q0 G.blob_CheckFiles.q1
      dsimp only
      have hsum := sumB_le l ok.b i (by omega)
      have hbi := ok.b _ (file_mem l i hi)
      have hw : IntKind.wrap .i64 ((sumB l i : Int) + ((bytesL (l.getD i .zero).b).length : Int)) = (sumB l (i + 1) : Int) := by
        rw [bytesL_len, wrap_id (by omega) (by omega)]; simp only [sumB]; omega
      rw [lt_nat, ifB_pos hi, idxL_nat (by simpa using hi), file_get _ _ hi, File.mat]
      simp only [List.getD_cons_zero, List.getD_cons_succ, asStr_str, asBool_bool, File.sl, hw, wrap_succ (show i < 9223372036854775807 by omega)]
      rw [prog_IsPath hk]
      dsimp only
      simp only [mpAt_at, setS, setLast]
      rw [bytesL_len, show ((100000 : Int)) = ((100000 : Nat) : Int) from rfl, gt_nat]
      have hprev : ∀ (h0 : 0 < i) (K' : LV → Option R), idxL (l.map File.lv) (IntKind.wrap .i64 ((i : Int) - 1)) K' = K' (l.getD (i - 1) .zero).lv := fun h0 K' => by
        rw [wrap_pred h0 (by omega), idxL_nat (by simp; omega), file_get _ _ (by omega)]
      have htail : ∀ (A J : Option R), ifB (decide ((i : Int) > 0)) (idxL (l.map File.lv) (IntKind.wrap .i64 ((i : Int) - 1)) fun v8 => asStr (leaf v8 0) fun s9 => ifB (strLt (l.getD i .zero).p s9 || strEq (l.getD i .zero).p s9) A J) J =
          match decide (0 < i) && (strLt (l.getD i .zero).p (l.getD (i - 1) .zero).p || strEq (l.getD i .zero).p (l.getD (i - 1) .zero).p) with | true => A | false => J := fun A J => by
        by_cases h0 : 0 < i
        · rw [ifB_pos (show (i : Int) > 0 by omega), hprev h0, decide_eq_true h0]
          show ifB _ _ _ = _
          simp only [Bool.true_and]
          cases (strLt (l.getD i .zero).p (l.getD (i - 1) .zero).p || strEq (l.getD i .zero).p (l.getD (i - 1) .zero).p) <;> rfl
        · rw [ifB_neg (show ¬ (i : Int) > 0 by omega), decide_eq_false h0]; rfl
      simp only [htail]
      unfold fileS
      generalize (decide (0 < i) && (strLt (l.getD i .zero).p (l.getD (i - 1) .zero).p || strEq (l.getD i .zero).p (l.getD (i - 1) .zero).p)) = b3
      generalize isPathS (l.getD i .zero).p = b1
      generalize decide ((l.getD i .zero).b.size > 100000) = b2
      cases b1 <;> cases b2 <;> cases b3 <;> rfl
    · unfold G.blob_CheckFiles.b0
      dsimp only
      rw [lt_nat, ifB_neg (Nat.lt_irrefl _), List.length_map]
      refine Eq.trans ?_ (scan_map (fun n => K (n, ()) (S ++ [.mp .str (hasM l l.length)])) (step := clashS l) l.length 0)
      refine rounds_scan0 (fun i => ((sumB l l.length : Int), S.length, l.map File.lv, (l.length : Int), (i : Int), ())) _ l.length k _ _ (fun rec i hi => ?_) (fun rec => ?_) (by omega)
      · unfold G.blob_CheckFiles.b1
        dsimp only
        rw [lt_nat, ifB_pos hi, idxL_nat (by simpa using hi), file_get _ _ hi, File.mat]
        simp only [List.getD_cons_zero, List.getD_cons_succ, asStr_str, asBool_bool, File.sl]
        rw [prog_clashes hk l _ (ok.p _ (file_mem l i hi)), wrap_succ (by omega)]
        unfold clashS
        cases clashB l (l.getD i .zero).p <;> rfl
      · unfold G.blob_CheckFiles.b1
        dsimp only
        rw [lt_nat, ifB_neg (Nat.lt_irrefl _), show ((2000000 : Int)) = ((2000000 : Nat) : Int) from rfl, gt_nat]
        cases decide (sumB l l.length > 2000000) <;> rfl
theorem prog_CheckFiles {k : Nat} (hk : Many k) (l : List File) (ok : FilesOk l) (S : List LV) (K : Int × Unit → List LV → Option R) : G.blob_CheckFiles.fn k (l.map File.lv, ()) S K = K (checkFilesS l, ()) S := by
  obtain ⟨G', h⟩ := prog_CheckFiles0 hk l ok S
  exact popK_at (h _) rfl
end
end Go.Lm

/- Digests: the program's and the reference's functions answer alike. -/
set_option maxRecDepth 100000
namespace Go.Lm
section
variable {R : Type}
end
end Go.Lm

/- Looks at places: the program's and the reference's functions answer alike. -/
set_option maxRecDepth 100000
namespace Go.Lm
section
variable {R : Type}
/-! ### One look -/
def Look.tup (x : Look) : (ByteArray × ByteArray × Bool × Unit) × Unit := ((x.p, x.d, x.r, ()), ())
end
end Go.Lm

/- The law's own parts: looks, standing, copies; and the law over them. -/
set_option maxRecDepth 100000
namespace Go.Lm
section
variable {R : Type}
abbrev Look.zero : Look := ⟨bs [], bs [], false⟩
theorem app_one {b : Nat} {ys : List LV} {x : LV} {K : List LV → Option R} (h : (ys.length + 1) * b ≤ 140737488355328) (h2 : ys.length + 1 ≤ 9223372036854775807) : app b ys [x] K = K (ys ++ [x]) := app_le h h2
/-! ### Lists of looks that are alike -/
/-! ### Copies -/
def File.cp (x : File) : File := ⟨x.p, x.r, x.b, false, fun h => by cases h⟩
/-! ### The reference's file `cp` answers as the file -/
end
end Go.Lm

/- The law's function answers true. -/
set_option maxRecDepth 100000
namespace Go.Lm
section
variable {R : Type}
theorem cloneL {n : Nat} {xs : List LV} (h : xs.length * n ≤ 140737488355328) (h2 : xs.length ≤ 9223372036854775807) : cloneF n (xs, ()) = some (xs, ()) := by
  unfold cloneF
  rw [Nat.zero_add, decide_eq_true ⟨h, h2⟩]
end
end Go.Lm
