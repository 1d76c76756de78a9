/- Paths and digests: the program's and the reference's functions answer alike. -/
import Derived.Test.YtnapepffpbbkoaaGreatDoorLmX
import Derived.Test.YtnapepffpbbkoaaGreatDoorLmS
set_option maxRecDepth 100000
namespace Go.Lm
section
variable {R : Type}
/-- Enough rounds for all that has a size. -/
def Many (k : Nat) : Prop := 281474976710656 ≤ k
def partB (c : Int) : Bool := (decide (c ≥ 97) && decide (c ≤ 122)) || ((decide (c ≥ 65) && decide (c ≤ 90)) || ((decide (c ≥ 48) && decide (c ≤ 57)) || ((c == 46) || ((c == 95) || ((c == 45) || (c == 43))))))

theorem indexByte_part (c : Int) (h0 : 0 ≤ c) (h1 : c < 256) : decide (Lib.indexByte [46, 95, 45, 43] c.toNat.toUInt8 ≥ 0) = ((c == 46) || ((c == 95) || ((c == 45) || (c == 43)))) := by
  have key : ∀ n : Fin 256, decide (Lib.indexByte [46, 95, 45, 43] (n.val.toUInt8) ≥ 0) = (((n.val : Int) == 46) || (((n.val : Int) == 95) || (((n.val : Int) == 45) || ((n.val : Int) == 43)))) := by decide +kernel
  have := key ⟨c.toNat, by omega⟩
  rw [this]
  have e : ((c.toNat : Nat) : Int) = c := by omega
  simp only [e]
theorem prog_inPart (k : Nat) (c : Int) (h0 : 0 ≤ c) (h1 : c < 256) (S : List LV) (K : Bool × Unit → List LV → Option R) : G.blob_inPart.fn k (c, ()) S K = K (partB c, ()) S := by
  have hi : ∀ K' : Int × Unit → List LV → Option R, G.strings_IndexByte.fn k ((bs [46, 95, 45, 43]), c, ()) S K' = K' (Lib.indexByte [46, 95, 45, 43] c.toNat.toUInt8, ()) S := fun K' => rfl
  unfold G.blob_inPart.fn partB
  dsimp only
  simp only [hi]
  rw [indexByte_part c h0 h1]
  generalize ((c == 46) || ((c == 95) || ((c == 45) || (c == 43)))) = b7
  generalize decide (c ≥ 97) = b1
  generalize decide (c ≤ 122) = b2
  generalize decide (c ≥ 65) = b3
  generalize decide (c ≤ 90) = b4
  generalize decide (c ≥ 48) = b5
  generalize decide (c ≤ 57) = b6
  cases b1 <;> cases b3 <;> cases b5 <;> (try cases b2) <;> (try cases b4) <;> (try cases b6) <;> cases b7 <;> rfl

/-- Is it a part of a path? -/
def isPartS (s : ByteArray) : Bool := scan (fun i => match partB (bt s i) with | true => none | false => some false) (!(strEq s (bs [])) && (!(strEq s (bs [46])) && !(strEq s (bs [46, 46])))) s.size 0
theorem fin_part (s : ByteArray) (S : List LV) (K : Bool × Unit → List LV → Option R) : ifB (!(strEq s (bs []))) (ifB (!(strEq s (bs [46]))) (K ((!(strEq s (bs [46, 46]))), ()) S) (K (false, ()) S)) (K (false, ()) S) = K (!(strEq s (bs [])) && (!(strEq s (bs [46])) && !(strEq s (bs [46, 46]))), ()) S := by
  generalize strEq s (bs []) = a
  generalize strEq s (bs [46]) = b
  cases a <;> cases b <;> rfl
theorem prog_isPart {k : Nat} (hk : Many k) (s : ByteArray) (hs : s.size ≤ 140737488355328) (S : List LV) (K : Bool × Unit → List LV → Option R) : G.blob_isPart.fn k (s, ()) S K = K (isPartS s, ()) S := by
  unfold Many at hk
  unfold G.blob_isPart.fn isPartS
  refine Eq.trans (rounds_scan0 (fun i => (s, (s.size : Int), (i : Int), ())) S s.size k (fun i => match partB (bt s i) with | true => none | false => some (K (false, ()) S)) (K (!(strEq s (bs [])) && (!(strEq s (bs [46])) && !(strEq s (bs [46, 46]))), ()) S) (fun rec i hi => ?_) (fun rec => ?_) (by omega)) ?_
  · unfold G.blob_isPart.b0
    dsimp only
    have hb := bt_lt s i
    rw [lt_nat, ifB_pos hi, idxStr_nat hi, prog_inPart k _ hb.1 hb.2, wrap_succ (by omega)]
    cases partB (bt s i) <;> rfl
  · unfold G.blob_isPart.b0
    dsimp only
    rw [lt_nat, ifB_neg (Nat.lt_irrefl _), fin_part]
  · rw [← scan_map (fun b => K (b, ()) S)]
    refine scan_congr _ _ (fun j _ _ => ?_) rfl
    cases partB (bt s j) <;> rfl

/-- What strings.Split gives at a byte. -/
def partsOf (s : ByteArray) : List ByteArray := Lib.splitB (bs [47]) 0 (Lib.countB s (bs [47])) s
theorem split_at (k : Nat) (s : ByteArray) (hs : s.size < 4294967281) (S : List LV) (K : List LV × Unit → List LV → Option R) : G.strings_Split.fn k (s, (bs [47]), ()) S K = K ((partsOf s).map .str, ()) S := by
  unfold G.strings_Split.fn H.genSplit.fn handF splitF
  dsimp only
  rw [decide_eq_true ⟨rfl, rfl, rfl, hs⟩]
  rfl
theorem splitB_sizes (sep : ByteArray) : ∀ (n : Nat) (s : ByteArray) (p : ByteArray), p ∈ Lib.splitB sep 0 n s → p.size ≤ s.size
  | 0, s, p, h => by
    rw [Lib.splitB_zero] at h
    simp at h; subst h; exact Nat.le_refl _
  | n + 1, s, p, h => by
    unfold Lib.splitB at h
    split at h
    · simp at h; subst h; exact Nat.le_refl _
    · rcases List.mem_cons.1 h with rfl | h
      · simp only [ByteArray.size_extract]; omega
      · refine Nat.le_trans (splitB_sizes sep n _ p h) ?_
        simp only [ByteArray.size_extract]; omega
theorem splitB_len (sep : ByteArray) : ∀ (n : Nat) (s : ByteArray), (Lib.splitB sep 0 n s).length ≤ n + 1
  | 0, s => by rw [Lib.splitB_zero]; simp
  | n + 1, s => by
    unfold Lib.splitB
    split
    · simp
    · have := splitB_len sep n (s.extract ((Lib.indexB s sep).toNat + sep.size) s.size)
      simp only [List.length_cons]; omega
def isPathS (s : ByteArray) : Bool := decide (1 ≤ s.size) && (decide (s.size ≤ 200) && (partsOf s).all isPartS)
theorem all_scan (l : List ByteArray) : l.all isPartS = scan (fun i => match isPartS (l.getD i (bs [])) with | true => none | false => some false) true l.length 0 := by
  have : ∀ (d i : Nat), i + d = l.length → (l.drop i).all isPartS = scan (fun i => match isPartS (l.getD i (bs [])) with | true => none | false => some false) true d i := by
    intro d
    induction d with
    | zero => intro i hi; rw [List.drop_eq_nil_of_le (by omega)]; rfl
    | succ d ih =>
      intro i hi
      have hlt : i < l.length := by omega
      rw [List.drop_eq_getElem_cons hlt, List.all_cons]
      simp only [scan]
      rw [List.getD_eq_getElem?_getD, List.getElem?_eq_getElem hlt, Option.getD_some]
      cases isPartS l[i] with
      | true => simp only [Bool.true_and]; exact ih (i + 1) (by omega)
      | false => rfl
  simpa using this l.length 0 (by omega)
theorem map_str_get (l : List ByteArray) (i : Nat) (h : i < l.length) : (l.map LV.str).getD i .any = .str (l.getD i (bs [])) := by
  simp [List.getD_eq_getElem?_getD, h]
theorem partsOf_len (s : ByteArray) (hs : s.size ≤ 200) : (partsOf s).length ≤ 201 + 1 := by
  have h1 := splitB_len (bs [47]) (Lib.countB s (bs [47])) s
  have h2 := Lib.countB_le (bs [47]) (Nat.le_refl 1) s.size s (Nat.le_refl _)
  unfold partsOf
  omega
theorem partsOf_size (s : ByteArray) (i : Nat) (h : i < (partsOf s).length) : ((partsOf s).getD i (bs [])).size ≤ s.size := by
  refine splitB_sizes (bs [47]) (Lib.countB s (bs [47])) s _ ?_
  rw [List.getD_eq_getElem?_getD, List.getElem?_eq_getElem h]
  exact List.getElem_mem h
theorem prog_IsPath {k : Nat} (hk : Many k) (s : ByteArray) (S : List LV) (K : Bool × Unit → List LV → Option R) : G.blob_IsPath.fn k (s, ()) S K = K (isPathS s, ()) S := by
  have hk' := hk
  unfold Many at hk'
  unfold G.blob_IsPath.fn isPathS
  dsimp only
  by_cases h1 : 1 ≤ s.size
  · rw [ifB_neg (show ¬ (s.size : Int) < 1 by omega), decide_eq_true h1]
    by_cases h2 : s.size ≤ 200
    · rw [ifB_neg (show ¬ (s.size : Int) > 200 by omega), decide_eq_true h2]
      simp only [Bool.true_and]
      have hl := partsOf_len s h2
      rw [split_at k s (by omega)]
      dsimp only
      rw [List.length_map]
      refine Eq.trans (rounds_scan0 (fun i => ((partsOf s).map LV.str, ((partsOf s).length : Int), (i : Int), ())) S (partsOf s).length k (fun i => match isPartS ((partsOf s).getD i (bs [])) with | true => none | false => some (K (false, ()) S)) (K (true, ()) S) (fun rec i hi => ?_) (fun rec => ?_) (by omega)) ?_
      · unfold G.blob_IsPath.b0
        dsimp only
        have hsz := partsOf_size s i hi
        rw [lt_nat, ifB_pos hi, idxL_nat (by simpa using hi), map_str_get _ _ hi]
        show asStr (.str _) _ = _
        rw [asStr_str, prog_isPart hk _ (by omega), wrap_succ (by omega)]
        cases isPartS ((partsOf s).getD i (bs [])) <;> rfl
      · unfold G.blob_IsPath.b0
        dsimp only
        rw [lt_nat, ifB_neg (Nat.lt_irrefl _)]
      · rw [all_scan, ← scan_map (fun b => K (b, ()) S)]
        refine scan_congr _ _ (fun j _ _ => ?_) rfl
        cases isPartS ((partsOf s).getD j (bs [])) <;> rfl
    · rw [ifB_pos (show (s.size : Int) > 200 by omega), decide_eq_false h2]
      simp
  · rw [ifB_pos (show (s.size : Int) < 1 by omega), decide_eq_false h1]
    simp
end
end Go.Lm
