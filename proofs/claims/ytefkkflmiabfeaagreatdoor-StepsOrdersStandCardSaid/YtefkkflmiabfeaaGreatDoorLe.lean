/- Parts of the proof: LmO3, LmO4, LmOs, LmT2, LmT4, LmQ, LmQ2, LmQ3, LmQ4, LmQ5, LmQ6, LmQ7, LmQ8, LmQ9, LmQ10, LmQ11, LmQ12, LmQ13, LmQ14, LmQ15, LmQ16, LmQ17, LmQ18, LmQ19, LmQ20, LmQ21, LmQ22, LmQ23, LmQ24, LmQ25, LmQ26, LmQ27, LmQ28, LmQ29, LmQ30. -/
import Derived.Test.YtefkkflmiabfeaaGreatDoorLd
import Derived.Laws.RangeString
import Derived.Laws.RangeAny
import Derived.Lib.ItoaLen
set_option linter.unusedVariables false
set_option linter.unusedSimpArgs false
set_option maxRecDepth 100000
namespace Go.Lm
section
variable {R : Type}
def smallB (c : Int) : Bool := decide (c ≥ 97) && decide (c ≤ 122)
def digitB (c : Int) : Bool := decide (c ≥ 48) && decide (c ≤ 57)
def keyWords : List ByteArray := [bs [109,97,99,114,111],bs [102,111,114],bs [105,110],bs [105,102],bs [101,108,115,101],bs [117,115,101],bs [102,105,108,101,115],bs [99,104,111,111,115,101]]
def nameAt (s : ByteArray) (i : Nat) : Bool := smallB (bt s i) || (!(decide (i = 0)) && (digitB (bt s i) || (bt s i == 95)))
def isNameS (s : ByteArray) : Bool := scan (fun i => cond (nameAt s i) none (some false)) true s.size 0 && (!(keyWords.any (strEq s)) && (decide (1 ≤ s.size) && decide (s.size ≤ 40)))
theorem eq0_nat (i : Nat) : ((i : Int) == 0) = decide (i = 0) := by
 by_cases h : i = 0
 ·subst h; rfl
 ·rw [decide_eq_false h,beq_eq_false_iff_ne]; omega
theorem prog_words8 (k : Nat) (S : List LV) (K : List LV × Unit → List LV → Option R) : G.script_words.fn k () S K = K (keyWords.map .str,()) S := rfl
theorem prog_isSmall (k : Nat) (c : Int) (S : List LV) (K : Bool × Unit → List LV → Option R) : G.script_isSmall.fn k (c,()) S K = K (smallB c,()) S := by
 unfold G.script_isSmall.fn smallB
 dsimp only
 cases decide (c ≥ 97) <;> rfl
theorem prog_isDigit (k : Nat) (c : Int) (S : List LV) (K : Bool × Unit → List LV → Option R) : G.script_isDigit.fn k (c,()) S K = K (digitB c,()) S := by
 unfold G.script_isDigit.fn digitB
 dsimp only
 cases decide (c ≥ 48) <;> rfl
theorem prog_IsName {k : Nat} (hk : Many k) (s : ByteArray) (S : List LV) (K : Bool × Unit → List LV → Option R) : G.script_IsName.fn k (s,()) S K = K (isNameS s,()) S := by
 have hk' := hk
 unfold Many at hk'
 unfold G.script_IsName.fn
 dsimp only
 by_cases h1 : 1 ≤ s.size
 ·rw [ifB_neg (show ¬ (s.size : Int) < 1 by omega)]
  by_cases h2 : s.size ≤ 40
  ·rw [ifB_neg (show ¬ (s.size : Int) > 40 by omega)]
   have e0 : ∀ K' : Int → Option R,idxStr s 0 K' = K' (bt s 0) := fun K' => idxStr_nat (i := 0) (by omega) K'
   rw [e0,prog_isSmall]
   dsimp only
   obtain ⟨d,hd⟩ : ∃ d,s.size = d + 1 := ⟨s.size - 1,by omega⟩
   have hn : isNameS s = (scan (fun i => cond (nameAt s i) none (some false)) true s.size 0 && !(keyWords.any (strEq s))) := by
    unfold isNameS
    rw [decide_eq_true h1,decide_eq_true h2]
    cases keyWords.any (strEq s) <;> rfl
   cases hsm : smallB (bt s 0) with
   | false =>
    rw [Bool.not_false,ifB_true,hn,hd]
    have : nameAt s 0 = false := by
     unfold nameAt
     show (smallB (bt s 0) || _) = false
     rw [hsm]; rfl
    simp only [scan,this]
    rfl
   | true =>
    rw [Bool.not_true,ifB_false,hn]
    refine Eq.trans (rounds_scan0 (fun i => (s,(s.size : Int),(i : Int),())) S s.size k (fun i => cond (nameAt s i) none (some (K (false,()) S))) (K (!(keyWords.any (strEq s)),()) S) (fun rec i hi => ?_) (fun rec => ?_) (by omega)) ?_
    ·unfold G.script_IsName.b0
     dsimp only
     rw [lt_nat,ifB_pos hi]
     simp only [idxStr_nat hi,wrap_succ (show i < 9223372036854775807 by omega),prog_isSmall,prog_isDigit]
     have hna : nameAt s i = (smallB (bt s i) || (digitB (bt s i) || (bt s i == 95))) := by
      unfold nameAt
      by_cases hi0 : i = 0
      ·subst hi0
       show (smallB (bt s 0) || _) = (smallB (bt s 0) || _)
       rw [hsm]; rfl
      ·rw [decide_eq_false hi0]; rfl
     rw [hna]
     have e1 : (bt s (i : Int) != 95) = !(bt s (i : Int) == 95) := rfl
     rw [e1]
     cases smallB (bt s (i : Int)) <;> cases digitB (bt s (i : Int)) <;> cases (bt s (i : Int) == 95) <;> rfl
    ·unfold G.script_IsName.b0
     dsimp only
     rw [lt_nat,ifB_neg (Nat.lt_irrefl _),prog_words8]
     dsimp only
     rw [contains_at hk keyWords (by decide)]
    ·rw [scan_cond]
     cases scan (fun j => cond (nameAt s j) none (some false)) true s.size 0 <;> rfl
  ·rw [ifB_pos (show (s.size : Int) > 40 by omega)]
   have : isNameS s = false := by
    unfold isNameS
    rw [decide_eq_false h2]; simp
   rw [this]
 ·rw [ifB_pos (show (s.size : Int) < 1 by omega)]
  have : isNameS s = false := by
   unfold isNameS
   rw [decide_eq_false h1]; simp
  rw [this]
theorem idx_okF {ok : Int → Bool} (hh : ∀ c,128 ≤ c → ok c = false) {p : Nat → Bool} (hp : ∀ x,x ≤ 1114111 → p x = !(ok (x : Int))) (s : ByteArray) : ∀ (f pos : Nat),s.size ≤ pos + f → decide (Lib.idxFuncFrom p true s f pos ≥ 0) = !(scan (fun i => cond (ok (bt s i)) none (some false)) true (s.size - pos) pos)
 | 0,pos,h => by
  have : s.size - pos = 0 := by omega
  rw [this]; rfl
 | f + 1,pos,h => by
  unfold Lib.idxFuncFrom
  by_cases hps : pos < s.size
  ·obtain ⟨d,hd⟩ : ∃ d,s.size - pos = d + 1 := ⟨s.size - pos - 1,by omega⟩
   rw [if_pos hps,hd]
   simp only [scan]
   rw [hp _ (Lib.rune_le s pos)]
   have hb := bt_nat hps
   rcases Nat.lt_or_ge (s[pos]'hps).toNat 128 with h1 | h1
   ·rw [decode_ascii s pos hps h1,← hb]
    cases ho : ok (bt s pos) with
    | true =>
     have ih := idx_okF hh hp s f (pos + 1) (by omega)
     have : s.size - (pos + 1) = d := by omega
     rw [this] at ih
     simpa using ih
    | false => simp
   ·obtain ⟨h2,_⟩ := decode_high s pos hps h1
    have h3 : ok (((Utf8.decode s pos).1 : Nat) : Int) = false := hh _ (by omega)
    have h4 : ok (bt s pos) = false := hh _ (by rw [hb]; omega)
    rw [h3,h4]
    simp
  ·have : s.size - pos = 0 := by omega
   rw [if_neg hps,this]; rfl
def okV (c : Int) : Bool := decide (32 ≤ c) && decide (c ≤ 126)
theorem pred_var (k x : Nat) : predA ((G.action_checkVars_1.en (R := Bool) k).h) x = some (!(okV (x : Int))) := by
 show (G.action_checkVars_1.fn k ((x : Int),()) [] fun r S => (match resE G.action_checkVars_1.rs r with | .bool b => some b | _ => none) : Option Bool) = _
 unfold G.action_checkVars_1.fn okV
 dsimp only
 by_cases h1 : (x : Int) < 32
 ·have h2 : ¬ (32 ≤ (x : Int)) := by omega
  rw [ifB_pos h1]
  simp only [h2,decide_false,Bool.false_and]
  rfl
 ·have h2 : 32 ≤ (x : Int) := by omega
  rw [ifB_neg h1]
  by_cases h3 : (x : Int) > 126
  ·have h4 : ¬ ((x : Int) ≤ 126) := by omega
   simp only [h3,h4,decide_false,decide_true,Bool.and_false]
   rfl
  ·have h4 : (x : Int) ≤ 126 := by omega
   simp only [h2,h3,h4,decide_false,decide_true,Bool.and_true]
   rfl
theorem prog_badValue (k : Nat) (s : ByteArray) (S : List LV) (K : Bool × Unit → List LV → Option R) : G.strings_ContainsFunc_at_action_checkVars_1.fn k (s,(),()) S K = K (!(allB 32 126 s),()) S := by
 unfold G.strings_ContainsFunc_at_action_checkVars_1.fn G.strings_IndexFunc_at_action_checkVars_1.fn H.indexFunc_at_action_checkVars_1.fn H.indexFunc.fn handF idxFF
 dsimp only
 have hok : H.indexFuncOk ((G.action_checkVars_1.en (R := Bool) k).h) := fun x _ => by rw [pred_var]; simp
 rw [show (Classical.propDecidable (H.indexFuncOk ((G.action_checkVars_1.en (R := Bool) k).h))).decide = true from @decide_eq_true _ (Classical.propDecidable _) hok]
 dsimp only
 have h := idx_okF (ok := okV) (fun c hc => by unfold okV; rw [decide_eq_false (show ¬ c ≤ 126 by omega),Bool.and_false]) (p := fun x => (predA ((G.action_checkVars_1.en (R := Bool) k).h) x).getD false) (fun x _ => by simp only [pred_var]; rfl) s s.size 0 (by omega)
 rw [Nat.sub_zero] at h
 have e : allB 32 126 s = scan (fun i => cond (okV (bt s i)) none (some false)) true s.size 0 := rfl
 rw [e,← h]
 rfl
abbrev AVar := ByteArray × ByteArray
def varL (x : AVar) : LV := .agg [.str x.1,.str x.2]
def varZ : AVar := (bs [],bs [])
def varS (l : List AVar) (i : Nat) : Option Int :=
 cond (!(isNameS (l.getD i varZ).1)) (some 5) (cond (decide ((l.getD i varZ).2.size > 300) || !(allB 32 126 (l.getD i varZ).2)) (some 3)
  (cond (decide (0 < i) && (strLt (l.getD i varZ).1 (l.getD (i - 1) varZ).1 || strEq (l.getD i varZ).1 (l.getD (i - 1) varZ).1)) (some 8) none))
def varsS (l : List AVar) : Int := cond (decide (l.length > 30)) 2 (scan (varS l) 0 l.length 0)
theorem var_get (l : List AVar) (i : Nat) (h : i < l.length) : (l.map varL).getD i .any = varL (l.getD i varZ) := by simp [List.getD_eq_getElem?_getD,h]
theorem varL_mat (x : AVar) (K : List LV → Option R) : mat 2 (varL x) K = K [.str x.1,.str x.2] := rfl
theorem varL_0 (x : AVar) (K : ByteArray → Option R) : asStr (leaf (varL x) 0) K = K x.1 := rfl
theorem mem_get {α : Type} {l : List α} {i : Nat} {z : α} (h : i < l.length) : l.getD i z ∈ l := by
 rw [List.getD_eq_getElem?_getD,List.getElem?_eq_getElem h]; exact List.getElem_mem h
theorem var_prev (l : List AVar) (i : Nat) (hi : i < l.length) (hl : l.length ≤ 140737488355328) (a : Option R) (J : Option R) :
  ifB (decide ((i : Int) > 0)) (idxL (l.map varL) (IntKind.wrap .i64 ((i : Int) - 1)) fun v => asStr (leaf v 0) fun s => ifB (strLt (l.getD i varZ).1 s || strEq (l.getD i varZ).1 s) a J) J =
   cond (decide (0 < i) && (strLt (l.getD i varZ).1 (l.getD (i - 1) varZ).1 || strEq (l.getD i varZ).1 (l.getD (i - 1) varZ).1)) a J := by
 by_cases h0 : 0 < i
 ·rw [ifB_pos (show (i : Int) > 0 by omega),decide_eq_true h0,wrap_pred h0 (by omega),idxL_nat (by simp; omega),var_get _ _ (by omega),varL_0,Bool.true_and]
  cases (strLt (l.getD i varZ).1 (l.getD (i - 1) varZ).1 || strEq (l.getD i varZ).1 (l.getD (i - 1) varZ).1) <;> rfl
 ·rw [ifB_neg (show ¬ (i : Int) > 0 by omega),decide_eq_false h0]; rfl
theorem gt300 (n : Nat) : decide ((n : Int) > 300) = decide (n > 300) := gt_nat n 300
theorem prog_checkVars {k : Nat} (hk : Many k) (l : List AVar) (S : List LV) (K : Int × Unit → List LV → Option R) : G.action_checkVars.fn k (l.map varL,()) S K = K (varsS l,()) S := by
 have hk' := hk
 unfold Many at hk'
 unfold G.action_checkVars.fn varsS
 dsimp only
 rw [List.length_map,show decide ((l.length : Int) > 30) = decide (l.length > 30) from gt_nat _ 30]
 cases hc : decide (l.length > 30) with
 | true => rfl
 | false =>
  have hlen : l.length ≤ 30 := by have := of_decide_eq_false hc; omega
  rw [ifB_false,cond_false]
  rw [← scan_map (fun n => K (n,()) S)]
  refine rounds_scan0 (fun i => (l.map varL,l.map varL,(l.length : Int),(i : Int),())) S l.length k _ _ (fun rec i hi => ?_) (fun rec => ?_) (by omega)
  ·unfold G.action_checkVars.b0 G.action_checkVars.q0
   dsimp only
   have hi2 : i < (l.map varL).length := by simpa using hi
   rw [lt_nat,ifB_pos hi]
   simp only [idxL_nat hi2,var_get _ _ hi,varL_mat,List.getD_cons_zero,List.getD_cons_succ,asStr_str,prog_IsName hk,gt300,wrap_succ (show i < 9223372036854775807 by omega),prog_badValue,var_prev l i hi (by omega)]
   unfold varS
   generalize (decide (0 < i) && (strLt (l.getD i varZ).1 (l.getD (i - 1) varZ).1 || strEq (l.getD i varZ).1 (l.getD (i - 1) varZ).1)) = b4
   generalize decide ((l.getD i varZ).2.size > 300) = b2
   generalize allB 32 126 (l.getD i varZ).2 = b3
   generalize isNameS (l.getD i varZ).1 = b1
   cases b1 <;> cases b2 <;> cases b3 <;> cases b4 <;> rfl
  ·unfold G.action_checkVars.b0
   dsimp only
   rw [lt_nat,ifB_neg (Nat.lt_irrefl _)]
end
end Go.Lm
set_option maxRecDepth 100000
namespace Go.Lm
section
variable {R : Type}
theorem setS_of (S : List LV) (K : List LV → Option R) : setS S K = K S := rfl
def firstE (step : Nat → Option Int) (n : Nat) : Option Int := scan (fun i => (step i).map some) none n 0
theorem scan_firstE {β : Type} (f : Int → β) (fin : β) (step : Nat → Option Int) : ∀ (d i : Nat),scan (fun j => (step j).map f) fin d i = ((scan (fun j => (step j).map some) none d i).map f).getD fin
 | 0,_ => rfl
 | d + 1,i => by
  have ih := scan_firstE f fin step d (i + 1)
  simp only [scan]
  cases step i with
  | some r => rfl
  | none => exact ih
def liesS (p q : ByteArray) : Bool := cond (decide (q.size + 1 ≤ p.size)) (strEq (p.extract 0 (q.size + 1)) (q ++ bs [47])) false
theorem prefix_of (k : Nat) (p t : ByteArray) (S : List LV) (K : Bool × Unit → List LV → Option R) : G.strings_HasPrefix.fn k (p,t,()) S K = K (cond (decide (t.size ≤ p.size)) (strEq (p.extract 0 t.size) t) false,()) S := by
 unfold G.strings_HasPrefix.fn G.internal_stringslite_HasPrefix.fn
 dsimp only
 by_cases h : t.size ≤ p.size
 ·rw [ifB_pos (show (p.size : Int) ≥ (t.size : Int) by omega),decide_eq_true h,slStr_nat h]; rfl
 ·rw [ifB_neg (show ¬ (p.size : Int) ≥ (t.size : Int) by omega),decide_eq_false h]; rfl
theorem size_slash (q : ByteArray) : (q ++ bs [47]).size = q.size + 1 := by rw [ByteArray.size_append]; rfl
theorem cat_slash {q : ByteArray} (h : q.size ≤ 140737488355328) (K : ByteArray → Option R) : catStr q (bs [47]) K = K (q ++ bs [47]) := by
 unfold catStr
 rw [ifB_pos (by have : (bs [47]).size = 1 := rfl; omega)]
theorem prog_Within (k : Nat) (p q : ByteArray) (hq : q.size ≤ 140737488355328) (S : List LV) (K : Bool × Unit → List LV → Option R) : G.blob_Within.fn k (p,q,()) S K = K (liesS p q,()) S := by
 unfold G.blob_Within.fn liesS
 dsimp only
 rw [cat_slash hq,prefix_of,size_slash]
def outS (l : List ByteArray) (i : Nat) : Option Int :=
 cond (!(isPathS (l.getD i (bs [])))) (some 3) (cond (decide (0 < i) && (strLt (l.getD i (bs [])) (l.getD (i - 1) (bs [])) || strEq (l.getD i (bs [])) (l.getD (i - 1) (bs [])))) (some 8) none)
def underS (l : List ByteArray) (p : ByteArray) : Bool := l.any fun q => liesS p q
def outsS (l : List ByteArray) : Int := cond (decide (l.length = 0)) 9 (cond (decide (l.length > 100)) 2 ((firstE (outS l) l.length).getD (cond (l.any (underS l)) 12 0)))
theorem out_prev (l : List ByteArray) (i : Nat) (hi : i < l.length) (hl : l.length ≤ 140737488355328) (a : Option R) (J : Option R) :
  ifB (decide ((i : Int) > 0)) (idxL (l.map LV.str) (IntKind.wrap .i64 ((i : Int) - 1)) fun v => asStr (leaf v 0) fun s => ifB (strLt (l.getD i (bs [])) s || strEq (l.getD i (bs [])) s) a J) J =
   cond (decide (0 < i) && (strLt (l.getD i (bs [])) (l.getD (i - 1) (bs [])) || strEq (l.getD i (bs [])) (l.getD (i - 1) (bs [])))) a J := by
 by_cases h0 : 0 < i
 ·rw [ifB_pos (show (i : Int) > 0 by omega),decide_eq_true h0,wrap_pred h0 (by omega),idxL_nat (by simp; omega),map_str_get l _ (by omega),asLeaf_str,Bool.true_and]
  cases (strLt (l.getD i (bs [])) (l.getD (i - 1) (bs [])) || strEq (l.getD i (bs [])) (l.getD (i - 1) (bs []))) <;> rfl
 ·rw [ifB_neg (show ¬ (i : Int) > 0 by omega),decide_eq_false h0]; rfl
theorem prog_outs1 {k : Nat} (hk : Many k) (l : List ByteArray) (hl : l.length ≤ 100) (S : List LV) (J0 : List LV × Unit → List LV → Option R) (Jret : Int × Unit → List LV → Option R) :
  rounds (G.action_checkOutputs.b0 k J0 Jret) k (l.map .str,l.map .str,(l.length : Int),(0 : Int),()) S = ((firstE (outS l) l.length).map fun n => Jret (n,()) S).getD (J0 (l.map .str,()) S) := by
 have hk' := hk
 unfold Many at hk'
 unfold firstE
 rw [← scan_firstE]
 refine rounds_scan0 (fun i => (l.map LV.str,l.map LV.str,(l.length : Int),(i : Int),())) S l.length k _ _ (fun rec i hi => ?_) (fun rec => ?_) (by omega)
 ·unfold G.action_checkOutputs.b0
  dsimp only
  have hi2 : i < (l.map LV.str).length := by simpa using hi
  rw [lt_nat,ifB_pos hi]
  simp only [idxL_nat hi2,map_str_get l i hi,asLeaf_str,prog_IsPath hk,wrap_succ (show i < 9223372036854775807 by omega),out_prev l i hi (by omega)]
  unfold outS
  generalize (decide (0 < i) && (strLt (l.getD i (bs [])) (l.getD (i - 1) (bs [])) || strEq (l.getD i (bs [])) (l.getD (i - 1) (bs [])))) = b2
  cases isPathS (l.getD i (bs [])) <;> cases b2 <;> rfl
 ·unfold G.action_checkOutputs.b0
  dsimp only
  rw [lt_nat,ifB_neg (Nat.lt_irrefl _)]
theorem prog_under {k : Nat} (hk : Many k) (l : List ByteArray) (hl : l.length ≤ 100) (hs : ∀ w ∈ l,w.size ≤ 140737488355328) (p : ByteArray) (id : Nat) (S : List LV) (hS : S.getD id .any = .obj 9 [.str p]) (K : Bool × Unit → List LV → Option R) :
  G.slices_ContainsFunc_s_string_string_at_action_checkOutputs_1.fn k (l.map .str,((id,0),()),()) S K = K (underS l p,()) S := by
 have hk' := hk
 unfold Many at hk'
 unfold G.slices_ContainsFunc_s_string_string_at_action_checkOutputs_1.fn G.slices_IndexFunc_s_string_string_at_action_checkOutputs_1.fn
 dsimp only
 rw [List.length_map]
 have h := rounds_scan0 (b := G.slices_IndexFunc_s_string_string_at_action_checkOutputs_1.b0 k (fun (_ : Unit) S => K (decide ((-1 : Int) ≥ 0),()) S) (fun (o5 : Int × Unit) S => K (decide (o5.1 ≥ 0),()) S)) (fun i => (l.map LV.str,((id,0),()),(l.length : Int),(i : Int),())) S l.length k (fun i => cond (liesS p (l.getD i (bs []))) (some (K (true,()) S)) none) (K (false,()) S) (fun rec i hi => ?_) (fun rec => ?_) (by omega)
 ·refine Eq.trans h ?_
  rw [scan_first0 (bs []) (fun q => liesS p q)]
  unfold underS
  cases l.any fun q => liesS p q <;> rfl
 ·unfold G.slices_IndexFunc_s_string_string_at_action_checkOutputs_1.b0 G.action_checkOutputs_1.fn
  dsimp only
  have hi2 : i < (l.map LV.str).length := by simpa using hi
  have hld : ∀ K : ByteArray → Option R,ldStr [LV.str p] 0 K = K p := fun _ => rfl
  rw [lt_nat,ifB_pos hi]
  simp only [idxL_nat hi2,map_str_get l i hi,asLeaf_str,at_of hS,hld,prog_Within k _ _ (get_size hs i hi),wrap_succ (show i < 9223372036854775807 by omega)]
  have e : decide ((i : Int) ≥ 0) = true := decide_eq_true (by omega)
  cases liesS p (l.getD i (bs [])) with
  | false => rfl
  | true =>
   show K (decide ((i : Int) ≥ 0),()) S = K (true,()) S
   rw [e]
 ·unfold G.slices_IndexFunc_s_string_string_at_action_checkOutputs_1.b0
  dsimp only
  rw [lt_nat,ifB_neg (Nat.lt_irrefl _)]
  rfl
def boxes (l : List ByteArray) (i : Nat) : List LV := (l.take i).map fun p => LV.obj 9 [.str p]
theorem boxes_succ (l : List ByteArray) (i : Nat) (hi : i < l.length) : boxes l (i + 1) = boxes l i ++ [.obj 9 [.str (l.getD i (bs []))]] := by
 unfold boxes
 rw [List.take_succ_eq_append_getElem hi,List.map_append,List.getD_eq_getElem?_getD,List.getElem?_eq_getElem hi]; rfl
theorem set_last (S : List LV) (a b : LV) : (S ++ [a]).set S.length b = S ++ [b] := by simp
theorem get_last (S : List LV) (a : LV) : (S ++ [a]).getD S.length .any = a := by simp [List.getD_eq_getElem?_getD]
theorem prog_checkOutputs0 {k : Nat} (hk : Many k) (l : List ByteArray) (hs : ∀ w ∈ l,w.size ≤ 140737488355328) (S : List LV) : ∃ X,∀ K : Int × Unit → List LV → Option R,G.action_checkOutputs.fn0 k (l.map .str,()) S K = K (outsS l,()) (S ++ X) := by
 have hk' := hk
 unfold Many at hk'
 unfold G.action_checkOutputs.fn0 outsS
 dsimp only
 rw [List.length_map,eq0_nat,show decide ((l.length : Int) > 100) = decide (l.length > 100) from gt_nat _ 100]
 cases decide (l.length = 0) with
 | true => exact ⟨[],fun K => by rw [List.append_nil]; rfl⟩
 | false =>
  cases hc : decide (l.length > 100) with
  | true => exact ⟨[],fun K => by rw [List.append_nil]; rfl⟩
  | false =>
   have hlen : l.length ≤ 100 := by have := of_decide_eq_false hc; omega
   simp only [ifB_false,prog_outs1 hk l hlen,cond_false]
   cases firstE (outS l) l.length with
   | some e => exact ⟨[],fun K => by rw [List.append_nil]; rfl⟩
   | none =>
    have h := fun (K : Int × Unit → List LV → Option R) => rounds_scan (b := G.action_checkOutputs.b1 k (fun (_ : Unit) S => K (0,()) S) (fun (o : Int × Unit) S => K (o.1,()) S)) (fun i => (l.map LV.str,l.map LV.str,(l.length : Int),(i : Int),())) (fun i => S ++ boxes l i) l.length (fun i => cond (underS l (l.getD i (bs []))) (some (K (12,()) (S ++ boxes l (i + 1)))) none) (K (0,()) (S ++ boxes l l.length)) (fun rec i hi => ?_) (fun rec => ?_) l.length 0 k (by omega) (by omega)
    ·have hs2 : ∀ (d i : Nat),∃ X,∀ K : Int × Unit → List LV → Option R,scan (fun i => cond (underS l (l.getD i (bs []))) (some (K (12,()) (S ++ boxes l (i + 1)))) none) (K (0,()) (S ++ boxes l l.length)) d i = K (scan (fun i => cond (underS l (l.getD i (bs []))) (some 12) none) 0 d i,()) (S ++ X) := fun d => by
      induction d with
      | zero => exact fun i => ⟨_,fun K => rfl⟩
      | succ d ih =>
       intro i
       simp only [scan]
       cases underS l (l.getD i (bs [])) with
       | true => exact ⟨_,fun K => rfl⟩
       | false => exact ih (i + 1)
     obtain ⟨X,hX⟩ := hs2 l.length 0
     refine ⟨X,fun K => ?_⟩
     show rounds (G.action_checkOutputs.b1 k _ _) k (l.map LV.str,l.map LV.str,(((l.map LV.str).length : Nat) : Int),(0 : Int),()) S = _
     rw [List.length_map]
     have h1 := h K
     have h0 : S ++ boxes l 0 = S := by unfold boxes; simp
     rw [h0] at h1
     refine Eq.trans h1 (Eq.trans (hX K) ?_)
     rw [scan_first0 (bs []) (underS l)]
     rfl
    ·unfold G.action_checkOutputs.b1
     dsimp only
     have hi2 : i < (l.map LV.str).length := by simpa using hi
     have hbox : (S ++ boxes l i ++ [LV.obj 9 [.str (bs [])]]).getD (S ++ boxes l i).length .any = .obj 9 [.str (bs [])] := get_last _ _
     have hbox2 : (S ++ boxes l i ++ [LV.obj 9 [.str (l.getD i (bs []))]]).getD (S ++ boxes l i).length .any = .obj 9 [.str (l.getD i (bs []))] := get_last _ _
     have hst : ∀ K : List LV → Option R,stO [LV.str (bs [])] 0 [.str (l.getD i (bs []))] K = K [.str (l.getD i (bs []))] := fun _ => rfl
     rw [lt_nat,ifB_pos hi,idxL_nat hi2,map_str_get l i hi,asLeaf_str]
     unfold newObj
     simp only [at_of hbox,hst,setS_of,set_last,prog_under hk l hlen hs _ _ _ hbox2,wrap_succ (show i < 9223372036854775807 by omega)]
     rw [boxes_succ l i hi,List.append_assoc]
     cases underS l (l.getD i (bs [])) <;> rfl
    ·unfold G.action_checkOutputs.b1
     dsimp only
     rw [lt_nat,ifB_neg (Nat.lt_irrefl _)]
theorem prog_checkOutputs {k : Nat} (hk : Many k) (l : List ByteArray) (hs : ∀ w ∈ l,w.size ≤ 140737488355328) (S : List LV) (K : Int × Unit → List LV → Option R) : G.action_checkOutputs.fn k (l.map .str,()) S K = K (outsS l,()) S := by
 obtain ⟨X,h⟩ := prog_checkOutputs0 (R := LV × List LV) hk l hs S
 exact popK_at (h _) rfl
structure Act where
 tool : ByteArray
 cmds : List (List ByteArray)
 vars : List AVar
 outs : List ByteArray
 needs : List AVar
 time : Int
def cmdL (c : List ByteArray) : LV := .sl 1 (c.map .str)
abbrev ActT := ByteArray × List LV × List LV × List LV × List LV × Int × Unit
def Act.tup (a : Act) : ActT := (a.tool,a.cmds.map cmdL,a.vars.map varL,a.outs.map .str,a.needs.map varL,a.time,())
structure ActOk (a : Act) : Prop where
 tool : a.tool.size ≤ 140737488355328
 cmds : ∀ c ∈ a.cmds,∀ w ∈ c,w.size ≤ 140737488355328
 vars : ∀ x ∈ a.vars,x.1.size ≤ 140737488355328
 outs : ∀ w ∈ a.outs,w.size ≤ 140737488355328
 needs : ∀ x ∈ a.needs,x.1.size ≤ 140737488355328
structure ActLen (a : Act) (n : Nat) : Prop where
 cmds : a.cmds.length ≤ n
 vars : a.vars.length ≤ n
 outs : a.outs.length ≤ n
 needs : a.needs.length ≤ n
def cmdAt (l : List (List ByteArray)) (i : Nat) : Option Int := cond (cmdS (l.getD i []) == 0) none (some (cmdS (l.getD i [])))
def actS (a : Act) : Int := cond (isDigestS a.tool) (cond (decide (a.cmds.length = 0)) 9 (cond (decide (a.cmds.length > 50)) 2 ((firstE (cmdAt a.cmds) a.cmds.length).getD
 (cond (varsS a.vars == 0) (cond (outsS a.outs == 0) (cond (varsS a.needs == 0) (cond (decide (1 ≤ a.time) && decide (a.time ≤ 100000)) 0 1) (varsS a.needs)) (outsS a.outs)) (varsS a.vars))))) 3
theorem cmd_get (l : List (List ByteArray)) (i : Nat) (h : i < l.length) : (l.map cmdL).getD i .any = cmdL (l.getD i []) := by simp [List.getD_eq_getElem?_getD,h]
theorem cmdL_at (c : List ByteArray) (K : List LV → Option R) : asSl 1 (leaf (cmdL c) 0) K = K (c.map .str) := asSl_sl 1 _ K
theorem ne0 (n : Int) : (n != 0) = !(n == 0) := rfl
theorem prog_CheckAction {k : Nat} (hk : Many k) (a : Act) (ok : ActOk a) (S : List LV) (K : Int × Unit → List LV → Option R) : G.action_CheckAction.fn k (a.tup,()) S K = K (actS a,()) S := by
 have hk' := hk
 unfold Many at hk'
 unfold G.action_CheckAction.fn actS Act.tup
 dsimp only
 rw [prog_IsDigest (k := k)]
 dsimp only
 cases isDigestS a.tool with
 | false => rfl
 | true =>
  rw [Bool.not_true,ifB_false,cond_true,List.length_map,eq0_nat,show decide ((a.cmds.length : Int) > 50) = decide (a.cmds.length > 50) from gt_nat _ 50]
  cases decide (a.cmds.length = 0) with
  | true => rfl
  | false =>
   cases hc : decide (a.cmds.length > 50) with
   | true => rfl
   | false =>
    have hlen : a.cmds.length ≤ 50 := by have := of_decide_eq_false hc; omega
    rw [ifB_false,ifB_false,cond_false,cond_false]
    refine Eq.trans (rounds_scan0 (fun i => (a.tup,a.cmds.map cmdL,(a.cmds.length : Int),(i : Int),())) S a.cmds.length k (fun i => (cmdAt a.cmds i).map fun e => K (e,()) S) (K ((cond (varsS a.vars == 0) (cond (outsS a.outs == 0) (cond (varsS a.needs == 0) (cond (decide (1 ≤ a.time) && decide (a.time ≤ 100000)) 0 1) (varsS a.needs)) (outsS a.outs)) (varsS a.vars)),()) S) (fun rec i hi => ?_) (fun rec => ?_) (by omega)) ?_
    ·unfold G.action_CheckAction.b0 Act.tup
     dsimp only
     have hi2 : i < (a.cmds.map cmdL).length := by simpa using hi
     rw [lt_nat,ifB_pos hi,idxL_nat hi2,cmd_get _ _ hi,cmdL_at,prog_checkCommand hk _ (ok.cmds _ (mem_get hi)),wrap_succ (by omega)]
     dsimp only
     unfold cmdAt
     rw [ne0]
     cases cmdS (a.cmds.getD i []) == 0 <;> rfl
    ·unfold G.action_CheckAction.b0 Act.tup
     dsimp only
     rw [lt_nat,ifB_neg (Nat.lt_irrefl _)]
     simp only [prog_checkVars hk,prog_checkOutputs hk _ ok.outs,ne0]
     cases varsS a.vars == 0 with
     | false => rfl
     | true =>
      cases outsS a.outs == 0 with
      | false => rfl
      | true =>
       cases varsS a.needs == 0 with
       | false => rfl
       | true =>
        by_cases h1 : 1 ≤ a.time
        ·by_cases h2 : a.time ≤ 100000
         ·simp only [h1,h2,show ¬ a.time < 1 by omega,show ¬ a.time > 100000 by omega,decide_true,decide_false]; rfl
         ·simp only [h1,h2,show ¬ a.time < 1 by omega,show a.time > 100000 by omega,decide_true,decide_false]; rfl
        ·simp only [h1,show a.time < 1 by omega,decide_true,decide_false]; rfl
    ·rw [scan_firstE]
     unfold firstE
     cases scan (fun j => (cmdAt a.cmds j).map some) none a.cmds.length 0 <;> rfl
end
end Go.Lm
set_option maxRecDepth 100000
namespace Go.Lm
section
variable {R : Type}
theorem strEq_refl (s : ByteArray) : strEq s s = true := (strEq_iff _ _).2 rfl
end
end Go.Lm
set_option maxRecDepth 100000
namespace Go.Lm
theorem firstE_none {step : Nat → Option Int} : ∀ (d i : Nat),scan (fun i => (step i).map some) (none : Option Int) d i = none → ∀ j,i ≤ j → j < i + d → step j = none
 | 0,_,_,_,_,_ => by omega
 | d + 1,i,h,j,h1,h2 => by
  simp only [scan] at h
  cases hs : step i with
  | some r => rw [hs] at h; cases h
  | none =>
   rw [hs] at h
   by_cases e : j = i
   ·subst e; exact hs
   ·exact firstE_none d (i + 1) h j (by omega) (by omega)
theorem firstE_some {step : Nat → Option Int} {P : Int → Prop} (hp : ∀ j r,step j = some r → P r) : ∀ (d i : Nat) (e : Int),scan (fun i => (step i).map some) (none : Option Int) d i = some e → P e
 | 0,_,_,h => by cases h
 | d + 1,i,e,h => by
  simp only [scan] at h
  cases hs : step i with
  | some r => rw [hs] at h; cases h; exact hp _ _ hs
  | none => rw [hs] at h; exact firstE_some hp d (i + 1) e h
theorem firstE_zero {step : Nat → Option Int} (hp : ∀ j r,step j = some r → r ≠ 0) {n : Nat} {x : Int} (h : (firstE step n).getD x = 0) : (∀ j,j < n → step j = none) ∧ x = 0 := by
 unfold firstE at h
 cases hs : scan (fun i => (step i).map some) (none : Option Int) n 0 with
 | some e => rw [hs] at h; exact absurd h (firstE_some (P := fun r => r ≠ 0) hp n 0 e hs)
 | none => rw [hs] at h; exact ⟨fun j hj => firstE_none n 0 hs j (Nat.zero_le _) (by omega),h⟩
theorem of_get {α : Type} {l : List α} {z : α} {P : α → Prop} (h : ∀ i,i < l.length → P (l.getD i z)) : ∀ x ∈ l,P x := by
 intro x hx
 obtain ⟨i,hi,rfl⟩ := List.mem_iff_getElem.1 hx
 have := h i hi
 rwa [List.getD_eq_getElem?_getD,List.getElem?_eq_getElem hi] at this
theorem path_len {s : ByteArray} (h : isPathS s = true) : 1 ≤ s.size ∧ s.size ≤ 200 := by
 unfold isPathS at h
 simp only [Bool.and_eq_true,decide_eq_true_eq] at h
 exact ⟨h.1,h.2.1⟩
theorem outs_right {l : List ByteArray} (h : outsS l = 0) : l.length ≤ 100 ∧ ∀ p ∈ l,isPathS p = true := by
 unfold outsS at h
 cases h0 : decide (l.length = 0) with
 | true => rw [h0] at h; cases h
 | false =>
  rw [h0,cond_false] at h
  cases h1 : decide (l.length > 100) with
  | true => rw [h1] at h; cases h
  | false =>
   rw [h1,cond_false] at h
   have a1 := of_decide_eq_false h1
   refine ⟨by omega,of_get (z := bs []) fun i hi => ?_⟩
   have hs : ∀ j r,outS l j = some r → r ≠ 0 := fun j r hj => by
    unfold outS at hj
    cases hb1 : isPathS (l.getD j (bs [])) with
    | false => rw [hb1] at hj; cases hj; decide
    | true =>
     rw [hb1] at hj
     cases hb3 : (decide (0 < j) && (strLt (l.getD j (bs [])) (l.getD (j - 1) (bs [])) || strEq (l.getD j (bs [])) (l.getD (j - 1) (bs [])))) with
     | true => rw [hb3] at hj; cases hj; decide
     | false => rw [hb3] at hj; cases hj
   have h3 := (firstE_zero hs h).1 i hi
   unfold outS at h3
   cases hb1 : isPathS (l.getD i (bs [])) with
   | false => rw [hb1] at h3; cases h3
   | true => rfl
structure ActRight (a : Act) : Prop where
 tool : isDigestS a.tool = true
 cmds : a.cmds.length ≤ 50 ∧ 1 ≤ a.cmds.length
 cmd : ∀ c ∈ a.cmds,cmdS c = 0
 vars : varsS a.vars = 0
 outs : outsS a.outs = 0
 needs : varsS a.needs = 0
 time : 1 ≤ a.time ∧ a.time ≤ 100000
theorem act_right {a : Act} (h : actS a = 0) : ActRight a := by
 unfold actS at h
 cases h1 : isDigestS a.tool with
 | false => rw [h1] at h; cases h
 | true =>
  rw [h1,cond_true] at h
  cases h2 : decide (a.cmds.length = 0) with
  | true => rw [h2] at h; cases h
  | false =>
   rw [h2,cond_false] at h
   cases h3 : decide (a.cmds.length > 50) with
   | true => rw [h3] at h; cases h
   | false =>
    rw [h3,cond_false] at h
    have hs : ∀ j r,cmdAt a.cmds j = some r → r ≠ 0 := fun j r hj => by
     unfold cmdAt at hj
     cases hb : cmdS (a.cmds.getD j []) == 0 with
     | true => rw [hb] at hj; cases hj
     | false => rw [hb] at hj; cases hj; exact fun e => by rw [e] at hb; cases hb
    obtain ⟨h4,h5⟩ := firstE_zero hs h
    have a2 := of_decide_eq_false h2
    have a3 := of_decide_eq_false h3
    have hc : ∀ c ∈ a.cmds,cmdS c = 0 := of_get (z := []) fun i hi => by
     have := h4 i hi
     unfold cmdAt at this
     cases hb : cmdS (a.cmds.getD i []) == 0 with
     | true => exact eq_of_beq hb
     | false => rw [hb] at this; cases this
    cases h6 : varsS a.vars == 0 with
    | false => rw [h6,cond_false] at h5; rw [h5] at h6; cases h6
    | true =>
     rw [h6,cond_true] at h5
     cases h7 : outsS a.outs == 0 with
     | false => rw [h7,cond_false] at h5; rw [h5] at h7; cases h7
     | true =>
      rw [h7,cond_true] at h5
      cases h8 : varsS a.needs == 0 with
      | false => rw [h8,cond_false] at h5; rw [h5] at h8; cases h8
      | true =>
       rw [h8,cond_true] at h5
       cases h9 : decide (1 ≤ a.time) && decide (a.time ≤ 100000) with
       | false => rw [h9] at h5; cases h5
       | true =>
        simp only [Bool.and_eq_true,decide_eq_true_eq] at h9
        exact ⟨h1,⟨by omega,by omega⟩,hc,eq_of_beq h6,eq_of_beq h7,eq_of_beq h8,h9⟩
end Go.Lm
set_option maxRecDepth 100000
namespace Go.Lm
section
variable {R : Type}
structure ActFit (a : Act) : Prop where
 cmds : a.cmds.length * 24 ≤ 140737488351232
 cmd : ∀ c ∈ a.cmds,c.length * 16 ≤ 140737488351232
 vars : a.vars.length * 32 ≤ 140737488351232
 outs : a.outs.length * 16 ≤ 140737488351232
 needs : a.needs.length * 32 ≤ 140737488351232
theorem fit_len {a : Act} (ft : ActFit a) : ActLen a 140737488355328 := ⟨by have := ft.cmds; omega,by have := ft.vars; omega,by have := ft.outs; omega,by have := ft.needs; omega⟩
end
end Go.Lm
set_option maxRecDepth 100000
namespace Go.Lm
section
variable {R : Type}
theorem quiR_same (S : List LV) (K : List LV → Option R) : quiR S S K = K S := by
 unfold quiR
 rw [if_pos rfl]
abbrev memD : ByteArray := bs [48,49,50,51,52,53,54,55,56,57,97,98,99,100,101,102]
abbrev mem0 : LV := .agg [.str (bs [97]),.str memD,.nilsl,.int .i64 0,.str (bs []),.nilsl,.nilsl,.int .i64 0]
abbrev mem1 : LV := .agg [.str (bs [97]),.str memD,.sl 3 [],.int .i64 0,.str (bs []),.sl 3 [],.sl 3 [],.int .i64 0]
theorem idx_one (v : LV) (K : LV → Option R) : idxL [v] 0 K = K v := rfl
theorem mem_mat (K : List LV → Option R) : mat 8 mem0 K = K [.str (bs [97]),.str memD,.nilsl,.int .i64 0,.str (bs []),.nilsl,.nilsl,.int .i64 0] := rfl
theorem checkMem_nil {k : Nat} (hk : Many k) (S : List LV) (K : Int × Unit → List LV → Option R) : G.steps_CheckMemory.fn k ([],()) S K = K (0,()) S := by
 unfold Many at hk
 obtain ⟨m,rfl⟩ : ∃ m,k = m + 1 := ⟨k - 1,by omega⟩
 rfl
theorem looks_nil {k : Nat} (hk : Many k) (S : List LV) (K : Bool × Unit → List LV → Option R) : G.slices_Equal_s_api_Look_api_Look.fn k ([],[],()) S K = K (true,()) S := by
 unfold Many at hk
 obtain ⟨m,rfl⟩ : ∃ m,k = m + 1 := ⟨k - 1,by omega⟩
 rfl
theorem mem_b0 {k : Nat} (hk : Many k) (S : List LV) (J0 : Unit → List LV → Option R) (Jret : Int × Unit → List LV → Option R) (rec : List LV × List LV × Int × Int × Unit → List LV → Option R) :
  G.steps_CheckMemory.b0 k J0 Jret rec ([mem0],[mem0],1,0,()) S = rec ([mem0],[mem0],1,1,()) S := by
 have h1 : isPathS (bs [97]) = true := by decide +kernel
 have h2 : isDigestS memD = true := by decide +kernel
 have h3 : checkLooksS [] = 0 := by decide +kernel
 have h4 : checkResS ⟨0,bs [],[],[],0⟩ = 0 := by decide +kernel
 have e1 : ∀ (K : Bool × Unit → List LV → Option R),G.blob_IsPath.fn k (bs [97],()) S K = K (true,()) S := fun K => (prog_IsPath hk (bs [97]) S K).trans (by rw [h1])
 have e2 : ∀ (K : Bool × Unit → List LV → Option R),G.blob_IsDigest.fn k (memD,()) S K = K (true,()) S := fun K => (prog_IsDigest memD S K).trans (by rw [h2])
 have e3 : ∀ (K : Int × Unit → List LV → Option R),G.action_CheckLooks.fn k ([],()) S K = K (0,()) S := fun K => (prog_CheckLooks hk [] S K).trans (by rw [h3])
 have e4 : ∀ (K : Int × Unit → List LV → Option R),G.action_CheckResult.fn k ((0,bs [],[],[],0,()),()) S K = K (0,()) S := fun K => (prog_CheckResult hk ⟨0,bs [],[],[],0⟩ ⟨by decide +kernel,⟨by simp,by simp,by simp⟩,by simp⟩ S K).trans (by rw [h4])
 unfold G.steps_CheckMemory.b0
 dsimp only
 rw [ifB_pos (by decide),idx_one,mem_mat]
 simp only [List.getD_cons_zero,List.getD_cons_succ,asStr_str,asInt_int,asSl_nil]
 rw [e1,Bool.not_true,ifB_false,e2,Bool.not_true,ifB_false,e3]
 dsimp only
 rw [show ((0 : Int) != 0) = false from rfl,ifB_false,e4]
 unfold G.steps_CheckMemory.q0 G.steps_CheckMemory.q1 G.steps_CheckMemory.q2 G.steps_CheckMemory.q3
 dsimp only
 rw [show ((0 : Int) != 0) = false from rfl,ifB_false,ifB_false,looks_nil hk]
 dsimp only
 rw [Bool.not_true,ifB_false,ifB_neg (by decide)]
 rfl
theorem checkMem_one {k : Nat} (hk : Many k) (S : List LV) (K : Int × Unit → List LV → Option R) : G.steps_CheckMemory.fn k ([mem0],()) S K = K (0,()) S := by
 have hk' := hk
 unfold Many at hk'
 obtain ⟨m,hm⟩ : ∃ m,k = m + 2 := ⟨k - 2,by omega⟩
 unfold G.steps_CheckMemory.fn
 dsimp only
 rw [ifB_neg (by decide)]
 conv => lhs; arg 2; rw [hm]
 rw [rounds_succ]
 refine (mem_b0 hk S _ _ _).trans ?_
 rw [rounds_succ]
 unfold G.steps_CheckMemory.b0
 dsimp only
 rw [ifB_neg (by decide)]
theorem clone_look_nil (k : Nat) (S : List LV) (K : List LV × Unit → List LV → Option R) : G.slices_Clone_s_api_Look_api_Look_c.fn k ([],()) S K = K ([],()) S := rfl
theorem appO_osl {e z b n id : Nat} {S xs ys : List LV} {K : LV → List LV → Option R} (h : S.getD id .any = .obj e xs ∨ S.getD id .any = .vec e xs) (hz : 0 < z) (hn : n * z ≤ xs.length) (hf : (n + ys.length) * b ≤ 140737488355328) (hm : n + ys.length ≤ 9223372036854775807) :
  appO e z b S (.osl id 0 z n) ys K = K (.osl S.length 0 z (n + ys.length)) (S.set id .any ++ [.vec e (xs.take (n * z) ++ flatC z ys)]) := by
 unfold appO cellsAt
 have h1 : Nat.blt 0 z = true := Nat.ble_eq_true_of_le hz
 have h2 : Nat.ble (n * z) xs.length = true := Nat.ble_eq_true_of_le hn
 have h3 : fitsB n ys.length b = true := decide_eq_true ⟨hf,hm⟩
 dsimp only
 rcases h with h | h <;> rw [h] <;> dsimp only <;> rw [Nat.beq_refl,Nat.beq_refl,Nat.beq_refl,h1,h2,h3] <;> rfl
theorem appO_nil {e z b : Nat} {S ys : List LV} {K : LV → List LV → Option R} (hz : 0 < z) (hy : 0 < ys.length) (hf : ys.length * b ≤ 140737488355328) (hm : ys.length ≤ 9223372036854775807) :
  appO e z b S .nilsl ys K = K (.osl S.length 0 z ys.length) (S ++ [.vec e (flatC z ys)]) := by
 unfold appO
 have h1 : Nat.blt 0 z = true := Nat.ble_eq_true_of_le hz
 have h2 : Nat.blt 0 ys.length = true := Nat.ble_eq_true_of_le hy
 have h3 : fitsB 0 ys.length b = true := decide_eq_true ⟨by rw [Nat.zero_add]; exact hf,by rw [Nat.zero_add]; exact hm⟩
 dsimp only
 rw [h1,h2,h3]; rfl
theorem get_end (S : List LV) (a : LV) : (S ++ [a]).getD S.length .any = a := by simp [List.getD_eq_getElem?_getD]
theorem lenO_osl (i p z n : Nat) (K : Nat → Option R) : lenO (.osl i p z n) K = K n := rfl
theorem own_nsl {k : Nat} (hk : Many k) (S : List LV) : G.blob_Own.fn k (.nsl 3 [],()) S (fun r S => some (resE G.blob_Own.rs r,S)) = some (resE G.blob_Own.rs ([],()),S) := by
 unfold Many at hk
 obtain ⟨m,rfl⟩ : ∃ m,k = m + 1 := ⟨k - 1,by omega⟩
 unfold G.blob_Own.fn
 refine popK_at (rs := G.blob_Own.rs) (r := ([],())) (G := [.any,.any]) ?_ rfl
 unfold G.blob_Own.fn0 G.slices_Clone_s_api_File_api_File_obj.fn
 dsimp only
 simp only [dup,isNil,asSl,newObj,Nat.beq_refl,ifB_true,show (false == true) = false from rfl,ifB_false]
 rw [appO_osl (xs := []) (.inl (get_end _ _)) (by decide) (by simp) (by simp) (by simp)]
 simp only [dup,lenO_osl]
 rw [rounds_succ]
 unfold G.blob_Own.b0
 dsimp only
 rw [ifB_neg (by simp)]
 unfold frzO objAt
 simp [List.getD_eq_getElem?_getD,chunks,flatC]
 rfl
theorem own_nil {k : Nat} (hk : Many k) (S : List LV) : G.blob_Own.fn k (.nilsl,()) S (fun r S => some (resE G.blob_Own.rs r,S)) = some (resE G.blob_Own.rs ([],()),S) := by
 unfold Many at hk
 obtain ⟨m,rfl⟩ : ∃ m,k = m + 1 := ⟨k - 1,by omega⟩
 unfold G.blob_Own.fn
 exact popK_at (rs := G.blob_Own.rs) (r := ([],())) (G := []) (by rw [List.append_nil]; rfl) rfl
theorem own_files_nil {k : Nat} (hk : Many k) (S : List LV) (K : List LV × Unit → List LV → Option R) : G.blob_Own_n.fn k ([],()) S K = K ([],()) S :=
 nilK_at (own_nsl hk S) (fun _ => own_nil hk S)
theorem objAt_end (S : List LV) (t : Nat) (xs : List LV) (K : (List LV → LV) → List LV → Option R) : objAt (S ++ [.vec t xs]) S.length K = K (.vec t) xs := by
 unfold objAt
 rw [get_end]
theorem set_end (S : List LV) (a b : LV) : (S ++ [a]).set S.length b = S ++ [b] := by simp
abbrev memC : List LV := [.str (bs [97]),.str memD,.sl 3 [],.int .i64 0,.str (bs []),.sl 3 [],.sl 3 [],.int .i64 0]
abbrev memC0 : List LV := [.str (bs [97]),.str memD,.nilsl,.int .i64 0,.str (bs []),.nilsl,.nilsl,.int .i64 0]
abbrev memC2 : List LV := [.str (bs [97]),.str memD,.own 124 3 [],.int .i64 0,.str (bs []),.nilsl,.nilsl,.int .i64 0]
abbrev memC1 : List LV := [.str (bs [97]),.str memD,.own 124 3 [],.int .i64 0,.str (bs []),.sl 3 [],.sl 3 [],.int .i64 0]
theorem oslOr_osl (i p z n : Nat) (A : Nat → Nat → Nat → Nat → Option R) (B : Option R) : oslOr (.osl i p z n) A B = A i p z n := rfl
theorem own_b0 {k : Nat} (hk : Many k) (S : List LV) (J0 : LV × Unit → List LV → Option R) (rec : LV × Int × Int × Unit → List LV → Option R) :
  G.steps_own.b0 k J0 rec (.osl S.length 0 8 1,1,0,()) (S ++ [.vec 62 memC0]) = rec (.osl S.length 0 8 1,1,1,()) (S ++ [.vec 62 memC1]) := by
 unfold G.steps_own.b0
 simp only [dup,oslOr_osl]
 rw [ifB_pos (by decide)]
 simp only [Nat.beq_refl,ifB_true]
 have e : ∀ K : Nat → Option R,idxN 1 0 K = K 0 := fun K => rfl
 have e1 : ∀ K : List LV → Option R,ldSl 3 memC0 (0 + 0 * 8 + 2) K = K [] := fun K => rfl
 have e2 : Nat.ble (0 + 0 * 8 + 3 + 5) memC0.length = true := rfl
 have e3 : ∀ (K : List LV → Option R),stO memC0 2 [.own 124 3 []] K = K memC2 := fun K => rfl
 have e4 : ∀ (K : List LV → Option R),stO memC2 3 [.int .i64 0,.str (bs []),.sl 3 [],.sl 3 [],.int .i64 0] K = K memC1 := fun K => rfl
 have e5 : memC0.map dupL = memC0 := rfl
 have e6 : ∀ (K : (Int × ByteArray × List LV × List LV × Int × Unit) × Unit → List LV → Option R) (S : List LV),G.steps_ownResult.fn k ((0,bs [],[],[],0,()),()) S K = K ((0,bs [],[],[],0,()),()) S := fun K S => by
  unfold G.steps_ownResult.fn
  dsimp only
  rw [own_files_nil hk]
  rfl
 simp only [e,objAt_end,e1,clone_look_nil,quiR_same,e2,ifB_true,e5,List.getD_cons_zero,List.getD_cons_succ,asStr_str,asInt_int,asSl_nil,Nat.zero_mul,Nat.zero_add,Nat.reduceAdd]
 rw [e6]
 simp only [e3,quiR_same,setS_of,set_end,objAt_end,e4]
 rfl
theorem sort_one {k : Nat} (hk : Many k) (id : Nat) (S : List LV) (K : Unit → List LV → Option R) : G.slices_SortFunc_s_api_Memory_api_Memory_at_steps_Joined_1.fn k (.osl id 0 8 1,(),()) S K = K () S := by
 unfold Many at hk
 obtain ⟨m,hm⟩ : ∃ m,k = m + 1 := ⟨k - 1,by omega⟩
 unfold G.slices_SortFunc_s_api_Memory_api_Memory_at_steps_Joined_1.fn G.math_bits_Len.fn
 simp only [dup,lenO_osl]
 have e1 : ∀ (K : Int × Unit → List LV → Option R),G.math_bits_Len64.fn k (IntKind.wrap .u64 ((1 : Nat) : Int),()) S K = K (1,()) S := fun K => by kernel_rfl
 rw [e1]
 unfold G.slices_pdqsortCmpFunc_api_Memory_at_steps_Joined_1.fn
 conv => lhs; arg 2; rw [hm]
 rw [rounds_succ]
 unfold G.slices_pdqsortCmpFunc_api_Memory_at_steps_Joined_1.b0 G.slices_insertionSortCmpFunc_api_Memory_at_steps_Joined_1.fn
 dsimp only
 rw [ifB_pos (by decide)]
 conv => lhs; arg 2; rw [hm]
 rw [rounds_succ]
 unfold G.slices_insertionSortCmpFunc_api_Memory_at_steps_Joined_1.b0
 dsimp only
 rw [ifB_neg (by decide)]
theorem own_one {k : Nat} (hk : Many k) (S : List LV) (K : LV × Unit → List LV → Option R) : G.steps_own.fn k (.sl 8 [mem0],()) S K = K (.osl (S.length + 1) 0 8 1,()) (S ++ [.any] ++ [.vec 62 memC1]) := by
 have hk' := hk
 unfold Many at hk'
 obtain ⟨m,hm⟩ : ∃ m,k = m + 2 := ⟨k - 2,by omega⟩
 unfold G.steps_own.fn G.slices_Clone_s_api_Memory_api_Memory_obj.fn
 simp only [dup,isNil,asSl_sl,newObj,ifB_false,show (false == true) = false from rfl]
 rw [appO_osl (xs := []) (.inl (get_end _ _)) (by decide) (by simp) (by simp) (by simp)]
 simp only [dup,lenO_osl,set_end]
 have e : List.take (0 * 8) ([] : List LV) ++ flatC 8 [mem0] = memC0 := rfl
 rw [e]
 conv => lhs; arg 2; rw [hm]
 rw [rounds_succ,show (S ++ [LV.obj 62 []]).length = (S ++ [LV.any]).length by simp]
 refine (own_b0 hk (S ++ [.any]) _ _).trans ?_
 rw [rounds_succ]
 unfold G.steps_own.b0
 dsimp only
 rw [ifB_neg (by decide)]
 simp
theorem own_none {k : Nat} (hk : Many k) (S : List LV) (K : LV × Unit → List LV → Option R) : G.steps_own.fn k (.nilsl,()) S K = K (.nilsl,()) S := by
 unfold Many at hk
 obtain ⟨m,rfl⟩ : ∃ m,k = m + 1 := ⟨k - 1,by omega⟩
 rfl
theorem joined_b1 (k : Nat) (i : Nat) (S : List LV) (hm : S.getD i .any = .mp .str []) (J : LV × Unit → List LV → Option R) (rec : Nat × LV × LV × Int × Int × Unit → List LV → Option R) :
  G.steps_Joined.b1 k J rec (i,.nilsl,.osl S.length 0 8 1,1,0,()) (S ++ [.vec 62 memC1]) = rec (i,.osl (S.length + 1) 0 8 1,.osl S.length 0 8 1,1,1,()) (S ++ [.vec 62 memC1] ++ [.vec 62 memC]) := by
 unfold G.steps_Joined.b1
 simp only [oslOr_osl]
 rw [ifB_pos (by decide)]
 simp only [Nat.beq_refl,ifB_true]
 have e : ∀ K : Nat → Option R,idxN 1 0 K = K 0 := fun K => rfl
 have e2 : Nat.ble (0 + 0 * 8 + 8) memC1.length = true := rfl
 have e5 : memC1.map dupL = memC := rfl
 have hlt : i < S.length := by
  rcases Nat.lt_or_ge i S.length with h1 | h1
  ·exact h1
  ·rw [List.getD_eq_getElem?_getD,List.getElem?_eq_none h1] at hm; cases hm
 have e6 : ∀ K : List (LV × LV) → Option R,mpAt (S ++ [.vec 62 memC1]) i .str K = K [] := fun K => by
  unfold mpAt
  rw [show (S ++ [LV.vec 62 memC1]).getD i .any = .mp .str [] by rw [← hm]; simp [List.getD_eq_getElem?_getD,List.getElem?_append_left hlt]]
  rfl
 simp only [e,objAt_end,e2,ifB_true,e5,List.getD_cons_zero,List.getD_cons_succ,asStr_str,asInt_int,asSl_sl,Nat.zero_mul,Nat.zero_add,Nat.reduceAdd,e6]
 have e7 : ∀ K : Bool → Option R,asBool ((mapGet [] (.str (bs [97]))).getD (.bool false)) K = K false := fun K => rfl
 rw [e7,Bool.not_false,ifB_true,appO_nil (by decide) (by simp) (by simp) (by simp)]
 have e8 : flatC 8 [.agg memC] = memC := rfl
 rw [e8]
 simp
 rfl
theorem joined_one0 {k : Nat} (hk : Many k) (S : List LV) (K : List LV × Int × Unit → List LV → Option R) : G.steps_Joined.fn0 k (.nilsl,.own 62 8 [mem0],()) S K = K ([mem1],0,()) (S ++ [.mp .str [],.any,.vec 62 memC1,.any]) := by
 have hk' := hk
 unfold Many at hk'
 obtain ⟨m,hm⟩ : ∃ m,k = m + 2 := ⟨k - 2,by omega⟩
 unfold G.steps_Joined.fn0
 simp only [asSl_nil,asSl_own]
 rw [checkMem_nil hk]
 dsimp only
 rw [show ((0 : Int) != 0) = false from rfl,ifB_false,checkMem_one hk]
 dsimp only
 rw [show ((0 : Int) != 0) = false from rfl,ifB_false]
 unfold newObj
 show rounds _ k _ (S ++ [.mp .str []]) = _
 conv => lhs; arg 2; rw [hm]
 rw [rounds_succ]
 unfold G.steps_Joined.b0
 dsimp only
 rw [ifB_neg (by decide)]
 simp only [dup]
 rw [own_none hk]
 dsimp only
 rw [own_one hk]
 simp only [dup,lenO_osl]
 conv => lhs; arg 2; rw [hm]
 rw [rounds_succ]
 have hl : S.length + 1 + 1 = (S ++ [LV.mp .str []] ++ [LV.any]).length := by simp
 have hl1 : (S ++ [LV.mp .str []]).length + 1 = (S ++ [LV.mp .str []] ++ [LV.any]).length := by simp
 rw [hl1]
 refine (joined_b1 k S.length (S ++ [.mp .str []] ++ [.any]) (by simp [List.getD_eq_getElem?_getD]) _ _).trans ?_
 rw [rounds_succ]
 unfold G.steps_Joined.b1
 dsimp only
 rw [ifB_neg (by decide)]
 simp only [dup,lenO_osl]
 rw [ifB_neg (by decide),sort_one hk]
 unfold frzO
 dsimp only
 rw [show (S ++ [LV.mp .str []] ++ [LV.any]).length + 1 = (S ++ [LV.mp .str []] ++ [LV.any] ++ [LV.vec 62 memC1]).length by simp,objAt_end]
 have e : (Nat.beq 8 8 && (Nat.beq 0 0 && Nat.beq (1 * 8) memC.length && Nat.blt 0 8 && Nat.ble 1 9223372036854775807)) = true := rfl
 have e1 : chunks 8 1 memC = [mem1] := rfl
 rw [e,ifB_true,e1,set_end]
 simp
theorem joined_one {k : Nat} (hk : Many k) (S : List LV) (K : List LV × Int × Unit → List LV → Option R) : G.steps_Joined.fn k (.nilsl,.own 62 8 [mem0],()) S K = K ([mem1],0,()) S := by
 unfold G.steps_Joined.fn
 exact popK_at (rs := G.steps_Joined.rs) (r := (([mem1],(0 : Int),()) : List LV × Int × Unit)) (joined_one0 hk S _) rfl
theorem awake_true {k : Nat} (hk : Many k) (S : List LV) (K : Bool × Unit → List LV → Option R) : G.smithyardlaw6_awake.fn k () S K = K (true,()) S := by
 unfold G.smithyardlaw6_awake.fn
 rw [joined_one hk]
 dsimp only
 rw [show ((0 : Int) == 0) = true from rfl,ifB_true,show ((([mem1] : List LV).length : Int) == 1) = true from rfl,ifB_true,idx_one]
 have e : ∀ K : ByteArray → Option R,asStr (leaf mem1 0) K = K (bs [97]) := fun K => rfl
 rw [e,show strEq (bs [97]) (bs [97]) = true from strEq_refl _]
end
end Go.Lm
set_option maxRecDepth 100000
namespace Go.Lm
section
variable {R : Type}
structure Rule where
 name : ByteArray
 act : Act
 ins : List ByteArray
abbrev RuleT := ByteArray × ByteArray × List LV × List LV × List LV × List LV × Int × List LV × Unit
abbrev Rule.tup (r : Rule) : RuleT := (r.name,r.act.tool,r.act.cmds.map cmdL,r.act.vars.map varL,r.act.outs.map .str,r.act.needs.map varL,r.act.time,r.ins.map .str,())
def Rule.cells (r : Rule) : List LV := [.str r.name,.str r.act.tool,.sl 1 (r.act.cmds.map cmdL),.sl 2 (r.act.vars.map varL),.sl 1 (r.act.outs.map .str),.sl 2 (r.act.needs.map varL),.int .i64 r.act.time,.sl 1 (r.ins.map .str)]
def Rule.lv (r : Rule) : LV := .agg r.cells
def Rule.zero : Rule := ⟨bs [],⟨bs [],[],[],[],[],0⟩,[]⟩
structure RuleOk (r : Rule) : Prop where
 act : ActOk r.act
 ins : r.ins.length ≤ 140737488355328
theorem rule_get (l : List Rule) (i : Nat) (h : i < l.length) : (l.map Rule.lv).getD i .any = (l.getD i .zero).lv := by simp [List.getD_eq_getElem?_getD,h]
theorem rule_mem (l : List Rule) (i : Nat) (h : i < l.length) : l.getD i .zero ∈ l := by
 rw [List.getD_eq_getElem?_getD,List.getElem?_eq_getElem h]; exact List.getElem_mem h
theorem Rule.mat (r : Rule) (K : List LV → Option R) : Lm.mat 8 r.lv K = K r.cells := rfl
theorem rule_name (r : Rule) (K : ByteArray → Option R) : asStr (leaf r.lv 0) K = K r.name := rfl
theorem rule_cells (r : Rule) (K : ByteArray → ByteArray → List LV → List LV → List LV → List LV → Int → List LV → Option R) :
  (asStr (r.cells.getD 0 .any) fun a => asStr (r.cells.getD 1 .any) fun b => asSl 1 (r.cells.getD 2 .any) fun c => asSl 2 (r.cells.getD 3 .any) fun d => asSl 1 (r.cells.getD 4 .any) fun e => asSl 2 (r.cells.getD 5 .any) fun f => asInt .i64 (r.cells.getD 6 .any) fun g => asSl 1 (r.cells.getD 7 .any) fun h => K a b c d e f g h) =
   K r.name r.act.tool (r.act.cmds.map cmdL) (r.act.vars.map varL) (r.act.outs.map .str) (r.act.needs.map varL) r.act.time (r.ins.map .str) := by
 unfold Rule.cells
 simp only [List.getD_cons_zero,List.getD_cons_succ,asStr_str,asInt_int,asSl_sl]
def ruleS (r : Rule) : Int := cond (isPathS r.name) (cond (actS r.act == 0) (cond (decide (r.ins.length > 1000)) 2 ((firstE (outS r.ins) r.ins.length).getD 0)) (actS r.act)) 3
theorem prog_ins {k : Nat} (hk : Many k) (r : Rule) (hl : r.ins.length ≤ 1000) (S : List LV) (J0 : Unit → List LV → Option R) (Jret : Int × Unit → List LV → Option R) :
  rounds (G.steps_checkRule.b0 k J0 Jret) k (r.tup,r.ins.map .str,(r.ins.length : Int),(0 : Int),()) S = ((firstE (outS r.ins) r.ins.length).map fun n => Jret (n,()) S).getD (J0 () S) := by
 have hk' := hk
 unfold Many at hk'
 unfold firstE
 rw [← scan_firstE]
 refine rounds_scan0 (fun i => (r.tup,r.ins.map LV.str,(r.ins.length : Int),(i : Int),())) S r.ins.length k _ _ (fun rec i hi => ?_) (fun rec => ?_) (by omega)
 ·unfold G.steps_checkRule.b0
  dsimp only
  have hi2 : i < (r.ins.map LV.str).length := by simpa using hi
  rw [lt_nat,ifB_pos hi]
  simp only [idxL_nat hi2,map_str_get r.ins i hi,asLeaf_str,prog_IsPath hk,wrap_succ (show i < 9223372036854775807 by omega),out_prev r.ins i hi (by omega)]
  unfold outS
  generalize (decide (0 < i) && (strLt (r.ins.getD i (bs [])) (r.ins.getD (i - 1) (bs [])) || strEq (r.ins.getD i (bs [])) (r.ins.getD (i - 1) (bs [])))) = b2
  cases isPathS (r.ins.getD i (bs [])) <;> cases b2 <;> rfl
 ·unfold G.steps_checkRule.b0
  dsimp only
  rw [lt_nat,ifB_neg (Nat.lt_irrefl _)]
theorem prog_checkRule {k : Nat} (hk : Many k) (r : Rule) (ok : RuleOk r) (S : List LV) (K : Int × Unit → List LV → Option R) : G.steps_checkRule.fn k (r.tup,()) S K = K (ruleS r,()) S := by
 unfold G.steps_checkRule.fn ruleS
 dsimp only
 rw [prog_IsPath hk]
 dsimp only
 cases isPathS r.name with
 | false => rfl
 | true =>
  rw [Bool.not_true,ifB_false]
  refine (prog_CheckAction hk r.act ok.act S _).trans ?_
  dsimp only [cond]
  rw [ne0]
  cases actS r.act == 0 with
  | false => rfl
  | true =>
   dsimp only [cond]
   rw [Bool.not_true,ifB_false,List.length_map,show decide ((r.ins.length : Int) > 1000) = decide (r.ins.length > 1000) from gt_nat r.ins.length 1000]
   by_cases h : r.ins.length > 1000
   ·rw [decide_eq_true h]; rfl
   ·rw [decide_eq_false h,ifB_false]
    refine (prog_ins hk r (by omega) S _ _).trans ?_
    cases firstE (outS r.ins) r.ins.length <;> rfl
end
end Go.Lm
set_option maxRecDepth 100000
namespace Go.Lm
section
variable {R : Type}
def Keeps (S S' : List LV) (M : List Nat) : Prop := S.length ≤ S'.length ∧ ∀ j,j < S.length → j ∉ M → S'.getD j .any = S.getD j .any
theorem Keeps.refl (S : List LV) (M : List Nat) : Keeps S S M := ⟨Nat.le_refl _,fun _ _ _ => rfl⟩
theorem Keeps.trans {S S1 S2 : List LV} {M : List Nat} (h : Keeps S S1 M) (h1 : Keeps S1 S2 M) : Keeps S S2 M :=
 ⟨Nat.le_trans h.1 h1.1,fun j hj hm => (h1.2 j (Nat.lt_of_lt_of_le hj h.1) hm).trans (h.2 j hj hm)⟩
theorem Keeps.weak {S S' : List LV} {M M' : List Nat} (h : Keeps S S' M) (hs : ∀ m,m ∈ M → m ∈ M' ∨ S.length ≤ m) : Keeps S S' M' :=
 ⟨h.1,fun j hj hm => h.2 j hj fun hc => by rcases hs j hc with h1 | h1; exact hm h1; omega⟩
theorem Keeps.set (S : List LV) (id : Nat) (v : LV) : Keeps S (S.set id v) [id] :=
 ⟨by simp,fun j _ hm => other_set (fun e => hm (by simp [e])) v⟩
theorem Keeps.app (S T : List LV) (M : List Nat) : Keeps S (S ++ T) M :=
 ⟨by simp,fun j hj _ => by simp only [List.getD_eq_getElem?_getD,List.getElem?_append_left hj]⟩
theorem Keeps.get {S S' : List LV} {M : List Nat} (h : Keeps S S' M) {id : Nat} {v : LV} (hv : S.getD id .any = v) (hn : v ≠ .any) (hm : id ∉ M) : S'.getD id .any = v := by
 rcases Nat.lt_or_ge id S.length with h1 | h1
 ·rw [h.2 id h1 hm,hv]
 ·rw [List.getD_eq_getElem?_getD,List.getElem?_eq_none h1] at hv; exact absurd hv.symm hn
theorem Keeps.grown {S S' : List LV} (h : Keeps S S' []) : ∃ G,S' = S ++ G := by
 refine ⟨S'.drop S.length,?_⟩
 apply List.ext_getElem?
 intro j
 rcases Nat.lt_or_ge j S.length with h1 | h1
 ·rw [List.getElem?_append_left h1]
  have := h.2 j h1 (by simp)
  simp only [List.getD_eq_getElem?_getD] at this
  rw [List.getElem?_eq_getElem h1,List.getElem?_eq_getElem (Nat.lt_of_lt_of_le h1 h.1)] at *
  simpa using this
 ·rw [List.getElem?_append_right h1,List.getElem?_drop,Nat.add_sub_cancel' h1]
theorem lt_get {S : List LV} {id : Nat} {v : LV} (hv : S.getD id .any = v) (hn : v ≠ .any) : id < S.length := by
 rcases Nat.lt_or_ge id S.length with h1 | h1
 ·exact h1
 ·rw [List.getD_eq_getElem?_getD,List.getElem?_eq_none h1] at hv; exact absurd hv.symm hn
theorem get_app {S : List LV} {id : Nat} {v : LV} (T : List LV) (hv : S.getD id .any = v) (hn : v ≠ .any) : (S ++ T).getD id .any = v := (Keeps.app S T []).get hv hn (by simp)
theorem get_set {S : List LV} {id : Nat} {v : LV} (hl : id < S.length) : (S.set id v).getD id .any = v := by
 simp [List.getD_eq_getElem?_getD,hl]
def scanE {ε : Type} (e : Nat → Option ε) (d i : Nat) : Option ε := scan (fun j => (e j).map some) none d i
theorem scanE_zero {ε : Type} (e : Nat → Option ε) (i : Nat) : scanE e 0 i = none := rfl
theorem scanE_some {ε : Type} {e : Nat → Option ε} {d i : Nat} {r : ε} (h : e i = some r) : scanE e (d + 1) i = some r := by simp [scanE,scan,h]
theorem scanE_none {ε : Type} {e : Nat → Option ε} {d i : Nat} (h : e i = none) : scanE e (d + 1) i = scanE e d (i + 1) := by simp [scanE,scan,h]
theorem loop_inv {κ α ε : Type} {b : κ → (α → List LV → Option R) → α → List LV → Option R} {x : Nat → α} {n : Nat} {Inv : Nat → List LV → Prop} {PE : ε → List LV → Prop} {out : κ → Option ε → List LV → Option R} {e : Nat → Option ε}
  (hb : ∀ i S,i < n → Inv i S → (∀ r,e i = some r → ∃ S',PE r S' ∧ ∀ q rec,b q rec (x i) S = out q (some r) S') ∧ (e i = none → ∃ S',Inv (i + 1) S' ∧ ∀ q rec,b q rec (x i) S = rec (x (i + 1)) S'))
  (he : ∀ q rec S,Inv n S → b q rec (x n) S = out q none S) :
  ∀ (d i fuel : Nat) (S : List LV),i + d = n → d < fuel → Inv i S → ∃ S',(∀ r,scanE e d i = some r → PE r S') ∧ (scanE e d i = none → Inv n S') ∧ ∀ q,rounds (b q) fuel (x i) S = out q (scanE e d i) S'
 | 0,i,fuel,S,hi,hf,hI => by
  obtain ⟨m,rfl⟩ : ∃ m,fuel = m + 1 := ⟨fuel - 1,by omega⟩
  have : i = n := by omega
  subst this
  exact ⟨S,fun r h => (by simp [scanE_zero] at h),fun _ => hI,fun q => by rw [rounds_succ,he _ _ _ hI,scanE_zero]⟩
 | d + 1,i,fuel,S,hi,hf,hI => by
  obtain ⟨m,rfl⟩ : ∃ m,fuel = m + 1 := ⟨fuel - 1,by omega⟩
  obtain ⟨h1,h2⟩ := hb i S (by omega) hI
  cases hE : e i with
  | some r =>
   obtain ⟨S',hp,hs⟩ := h1 r hE
   exact ⟨S',fun r' h => (by rw [scanE_some hE] at h; cases h; exact hp),fun h => (by rw [scanE_some hE] at h; cases h),fun q => by rw [rounds_succ,hs,scanE_some hE]⟩
  | none =>
   obtain ⟨S1,hI1,hs⟩ := h2 hE
   obtain ⟨S',a,b',c⟩ := loop_inv hb he d (i + 1) m S1 (by omega) (by omega) hI1
   exact ⟨S',fun r h => a r (by rwa [scanE_none hE] at h),fun h => b' (by rwa [scanE_none hE] at h),fun q => by rw [rounds_succ,hs,c,scanE_none hE]⟩
theorem loop_all {κ α : Type} {b : κ → (α → List LV → Option R) → α → List LV → Option R} {x : Nat → α} {n : Nat} {Inv : Nat → List LV → Prop} {out : κ → List LV → Option R}
  (hb : ∀ i S,i < n → Inv i S → ∃ S',Inv (i + 1) S' ∧ ∀ q rec,b q rec (x i) S = rec (x (i + 1)) S') (he : ∀ q rec S,Inv n S → b q rec (x n) S = out q S)
  (fuel : Nat) (hf : n < fuel) (S : List LV) (hI : Inv 0 S) : ∃ S',Inv n S' ∧ ∀ q,rounds (b q) fuel (x 0) S = out q S' := by
 obtain ⟨S',_,h2,h3⟩ := loop_inv (ε := Empty) (e := fun _ => none) (PE := fun r _ => r.elim) (out := fun q _ S => out q S) (b := b) (x := x) (Inv := Inv) (fun i S hi hI => ⟨fun r => r.elim,fun _ => hb i S hi hI⟩) he n 0 fuel S (by omega) hf hI
 have hn : ∀ d i,scanE (fun _ => (none : Option Empty)) d i = none := fun d => by
  induction d with
  | zero => exact fun i => rfl
  | succ d ih => exact fun i => (scanE_none rfl).trans (ih (i + 1))
 exact ⟨S',h2 (hn _ _),h3⟩
def StrKeys (m : List (LV × LV)) : Prop := ∀ e,e ∈ m → ∃ s,e.1 = LV.str s
theorem StrKeys.put {m : List (LV × LV)} (hm : StrKeys m) (a : ByteArray) (v : LV) : StrKeys (mapPut m (.str a) v) := by
 induction m with
 | nil => intro e he; simp [mapPut] at he; exact ⟨a,by rw [he]⟩
 | cons x m ih =>
  intro e he
  obtain ⟨k,y⟩ := x
  simp only [mapPut] at he
  split at he
  ·rcases List.mem_cons.1 he with rfl | he
   ·exact hm (k,y) (by simp)
   ·exact hm e (by simp [he])
  ·rcases List.mem_cons.1 he with rfl | he
   ·exact hm (k,y) (by simp)
   ·exact ih (fun e he => hm e (by simp [he])) e he
structure IsMap (S : List LV) (id : Nat) (m : List (LV × LV)) (f : ByteArray → Option LV) : Prop where
 at_ : S.getD id .any = .mp .str m
 keys : StrKeys m
 get : ∀ p,mapGet m (.str p) = f p
theorem IsMap.lt {S : List LV} {id : Nat} {m : List (LV × LV)} {f : ByteArray → Option LV} (h : IsMap S id m f) : id < S.length := lt_get h.at_ (by simp)
theorem IsMap.mp {S : List LV} {id : Nat} {m : List (LV × LV)} {f : ByteArray → Option LV} (h : IsMap S id m f) (K : List (LV × LV) → Option R) : mpAt S id .str K = K m := by
 unfold mpAt
 rw [h.at_]; rfl
theorem IsMap.keeps {S S' : List LV} {id : Nat} {m : List (LV × LV)} {f : ByteArray → Option LV} {M : List Nat} (h : IsMap S id m f) (hk : Keeps S S' M) (hm : id ∉ M) : IsMap S' id m f := ⟨hk.get h.at_ (by simp) hm,h.keys,h.get⟩
theorem IsMap.put {S : List LV} {id : Nat} {m : List (LV × LV)} {f : ByteArray → Option LV} (h : IsMap S id m f) (a : ByteArray) (v : LV) : IsMap (S.set id (.mp .str (mapPut m (.str a) v))) id (mapPut m (.str a) v) (fun p => cond (decide (a = p)) (some v) (f p)) :=
 ⟨get_set h.lt,h.keys.put a v,fun p => by rw [mapGet_put _ _ _ _ h.keys,h.get]; cases decide (a = p) <;> rfl⟩
def IsSet (S : List LV) (id : Nat) (P : ByteArray → Bool) : Prop := ∃ m,IsMap S id m fun p => cond (P p) (some (.bool true)) none
theorem IsSet.keeps {S S' : List LV} {id : Nat} {P : ByteArray → Bool} {M : List Nat} (h : IsSet S id P) (hk : Keeps S S' M) (hm : id ∉ M) : IsSet S' id P := by
 obtain ⟨m,h⟩ := h; exact ⟨m,h.keeps hk hm⟩
theorem IsSet.lt {S : List LV} {id : Nat} {P : ByteArray → Bool} (h : IsSet S id P) : id < S.length := by obtain ⟨m,h⟩ := h; exact h.lt
theorem IsSet.congr {S : List LV} {id : Nat} {P P' : ByteArray → Bool} (h : IsSet S id P) (hp : ∀ p,P p = P' p) : IsSet S id P' := by
 have : P = P' := funext hp
 rw [← this]; exact h
theorem IsSet.empty (S : List LV) : IsSet (S ++ [.mp .str []]) S.length fun _ => false := ⟨[],get_end _ _,fun e he => by simp at he,fun p => rfl⟩
theorem IsSet.get {S : List LV} {id : Nat} {P : ByteArray → Bool} (h : IsSet S id P) (p : ByteArray) (K : Bool → Option R) : (mpAt S id .str fun m => asBool ((mapGet m (.str p)).getD (.bool false)) K) = K (P p) := by
 obtain ⟨m,h⟩ := h
 rw [h.mp,h.get]
 cases P p <;> rfl
theorem IsSet.put {S : List LV} {id : Nat} {P : ByteArray → Bool} (h : IsSet S id P) (a : ByteArray) : ∃ S',IsSet S' id (fun p => P p || decide (a = p)) ∧ Keeps S S' [id] ∧
  ∀ K : List LV → Option R,(mpAt S id .str fun m => setS (S.set id (.mp .str (mapPut m (.str a) (.bool true)))) K) = K S' := by
 obtain ⟨m,h⟩ := h
 refine ⟨_,⟨mapPut m (.str a) (.bool true),?_⟩,Keeps.set S id (.mp .str (mapPut m (.str a) (.bool true))),fun K => h.mp _⟩
 have := h.put a (.bool true)
 refine ⟨this.at_,this.keys,fun p => (this.get p).trans ?_⟩
 dsimp only
 cases decide (a = p) <;> cases P p <;> rfl
def aboveTo (p : ByteArray) (n : Nat) : List ByteArray := (List.range n).filterMap fun (j : Nat) => cond (bt p (j : Int) == 47) (some (p.extract 0 j)) none
def aboveS (p : ByteArray) : List ByteArray := aboveTo p p.size
theorem aboveTo_succ (p : ByteArray) (n : Nat) : aboveTo p (n + 1) = cond (bt p (n : Int) == 47) (aboveTo p n ++ [p.extract 0 n]) (aboveTo p n) := by
 unfold aboveTo
 rw [List.range_succ,List.filterMap_append]
 rw [List.filterMap_cons]
 cases bt p (n : Int) == 47 <;> simp
theorem aboveTo_len (p : ByteArray) (n : Nat) : (aboveTo p n).length ≤ n := by
 have := List.length_filterMap_le (fun j : Nat => cond (bt p (j : Int) == 47) (some (p.extract 0 j)) none) (List.range n)
 rw [List.length_range] at this
 exact this
theorem prog_above {k : Nat} (hk : Many k) (p : ByteArray) (hp : p.size ≤ 300) (S : List LV) (K : List LV × Unit → List LV → Option R) : G.steps_above.fn k (p,()) S K = K ((aboveS p).map .str,()) S := by
 unfold Many at hk
 unfold G.steps_above.fn
 have h0 : (aboveTo p 0).map LV.str = [] := rfl
 dsimp only
 rw [← h0]
 refine (rounds_scan0 (fun i => (p,(aboveTo p i).map LV.str,(p.size : Int),(i : Int),())) S p.size k (fun _ => none) (K ((aboveS p).map .str,()) S) (fun rec i hi => ?_) (fun rec => ?_) (by omega)).trans (scan_none _ _ (fun _ _ _ => rfl))
 ·unfold G.steps_above.b0
  dsimp only
  rw [lt_nat,ifB_pos hi,idxStr_nat hi,slStr_nat (by omega),wrap_succ (by omega),aboveTo_succ]
  have := aboveTo_len p i
  cases bt p i == 47 with
  | true => rw [ifB_true,app_one (by rw [List.length_map]; omega) (by rw [List.length_map]; omega)]; simp
  | false => rfl
 ·unfold G.steps_above.b0
  dsimp only
  rw [lt_nat,ifB_neg (Nat.lt_irrefl _)]; rfl
theorem bt_toL (p : ByteArray) (j : Nat) (h : j < p.size) : bt p (j : Int) = (((toL p).getD j 0).toNat : Int) := by
 unfold bt toL
 rw [dif_pos (by simpa using h)]
 have h2 : j < p.data.size := h
 have e : p[j] = p.data[j] := rfl
 simp [List.getD_eq_getElem?_getD,h2]
 rw [Array.getElem?_eq_getElem h2]
 rfl
theorem mem_above (p q : ByteArray) : q ∈ aboveS p ↔ liesS p q = true := by
 unfold aboveS aboveTo liesS
 rw [List.mem_filterMap]
 constructor
 ·rintro ⟨j,hj,h⟩
  rw [List.mem_range] at hj
  cases h47 : bt p (j : Int) == 47 with
  | false => rw [h47] at h; cases h
  | true =>
   rw [h47] at h
   simp only [cond_true,Option.some.injEq] at h
   subst h
   have hs : (p.extract 0 j).size = j := by rw [← toL_len,toL_extract]; simp [toL_len]; omega
   rw [hs,decide_eq_true (show j + 1 ≤ p.size by omega),cond_true,strEq_iff]
   apply toL_inj
   rw [toL_app,toL_extract,toL_extract]
   simp only [Nat.sub_zero,List.drop_zero]
   rw [List.take_add_one]
   congr 1
   have h2 : j < (toL p).length := by rw [toL_len]; exact hj
   rw [bt_toL p j hj,beq_iff_eq,List.getD_eq_getElem?_getD,List.getElem?_eq_getElem h2] at h47
   rw [List.getElem?_eq_getElem h2]
   simp only [Option.getD_some] at h47
   have : (toL p)[j] = 47 := UInt8.toNat_inj.1 (by show _ = 47; omega)
   simp [this]; rfl
 ·intro h
  cases hd : decide (q.size + 1 ≤ p.size) with
  | false => rw [hd] at h; cases h
  | true =>
   have hd := of_decide_eq_true hd
   rw [decide_eq_true hd,cond_true,strEq_iff] at h
   have h := congrArg toL h
   rw [toL_app,toL_extract] at h
   simp only [Nat.sub_zero,List.drop_zero] at h
   have h2 : q.size < (toL p).length := by rw [toL_len]; omega
   rw [List.take_add_one,List.getElem?_eq_getElem h2] at h
   have hq : ((toL p).take q.size).length = (toL q).length := by rw [List.length_take,toL_len,toL_len]; omega
   obtain ⟨h3,h4⟩ := List.append_inj h hq
   have h5 : (toL p)[q.size] = 47 := by
    have h6 : [(toL p)[q.size]] = ([47] : List UInt8) := h4
    simpa using h6
   refine ⟨q.size,List.mem_range.2 (by omega),?_⟩
   have h47 : (bt p (q.size : Int) == 47) = true := by
    rw [bt_toL p _ (by omega),List.getD_eq_getElem?_getD,List.getElem?_eq_getElem h2]
    simp [h5]
   rw [h47]
   simp only [cond_true,Option.some.injEq]
   apply toL_inj
   rw [toL_extract]
   simpa using h3
end
end Go.Lm
set_option maxRecDepth 100000
namespace Go.Lm
section
variable {R : Type}
theorem any_take {α : Type} (f : α → Bool) (l : List α) (z : α) (i : Nat) (h : i < l.length) : (l.take (i + 1)).any f = ((l.take i).any f || f (l.getD i z)) := by
 rw [List.take_add_one,List.any_append,List.getD_eq_getElem?_getD,List.getElem?_eq_getElem h]
 simp
def isIn (l : List ByteArray) (p : ByteArray) : Bool := l.any fun a => decide (a = p)
theorem isIn_iff (l : List ByteArray) (p : ByteArray) : isIn l p = true ↔ p ∈ l := by
 unfold isIn
 rw [List.any_eq_true]
 constructor
 ·rintro ⟨a,h,e⟩; rw [← of_decide_eq_true e]; exact h
 ·exact fun h => ⟨p,h,by simp⟩
abbrev Ids := Nat × Nat × Nat × Nat × Unit
abbrev U5 := Unit × Unit × Unit × Unit × Unit
abbrev u5 : U5 := ((),(),(),(),())
theorem tang_b2 {k : Nat} (hk : Many k) (ids : Ids) (r : RuleT) (ls : List LV) (n i : Int) (l11 : List LV) (m j : Int) (q : List ByteArray) (hq : q.length ≤ 300) (P : ByteArray → Bool) (S : List LV) (hS : IsSet S ids.2.2.1 P) :
  ∃ S',(IsSet S' ids.2.2.1 (fun p => P p || isIn q p) ∧ Keeps S S' [ids.2.2.1]) ∧
   ∀ J : U5 × Ids × RuleT × List LV × Int × Int × List LV × Int × Int × Unit → List LV → Option R,
    rounds (G.steps_tangleOf.b2 k J) k (u5,ids,r,ls,n,i,l11,m,j,q.map .str,(q.length : Int),0,()) S = J (u5,ids,r,ls,n,i,l11,m,j,()) S' := by
 unfold Many at hk
 have h := loop_all (R := R) (b := fun J => G.steps_tangleOf.b2 k J) (x := fun t => (u5,ids,r,ls,n,i,l11,m,j,q.map LV.str,(q.length : Int),(t : Int),())) (n := q.length)
  (Inv := fun t S1 => IsSet S1 ids.2.2.1 (fun p => P p || isIn (q.take t) p) ∧ Keeps S S1 [ids.2.2.1])
  (out := fun (J : U5 × Ids × RuleT × List LV × Int × Int × List LV × Int × Int × Unit → List LV → Option R) S' => J (u5,ids,r,ls,n,i,l11,m,j,()) S')
  (fun t S1 ht hI => ?_) (fun J rec S1 hI => ?_) k (by omega) S ⟨hS.congr (fun p => by simp [isIn]),Keeps.refl _ _⟩
 ·obtain ⟨S',⟨h1,h2⟩,h3⟩ := h
  rw [List.take_length] at h1
  exact ⟨S',⟨h1,h2⟩,h3⟩
 ·obtain ⟨S',h1,h2,h3⟩ := hI.1.put (R := R) (q.getD t (bs []))
  refine ⟨S',⟨h1.congr fun p => ?_,hI.2.trans h2⟩,fun J rec => ?_⟩
  ·unfold isIn
   rw [any_take _ q (bs []) t ht,Bool.or_assoc]
  ·unfold G.steps_tangleOf.b2
   dsimp only
   rw [lt_nat,ifB_pos ht,idxL_nat (by simpa using ht),map_str_get q t ht,asLeaf_str,h3,wrap_succ (by omega)]
 ·unfold G.steps_tangleOf.b2
  dsimp only
  rw [lt_nat,ifB_neg (Nat.lt_irrefl _)]
theorem tang_b4 {k : Nat} (hk : Many k) (ids : Ids) (ls : List LV) (n i : Int) (l11 : List LV) (m j : Int) (q : List ByteArray) (hq : q.length ≤ 300) (P : ByteArray → Bool) (S : List LV) (hS : IsSet S ids.2.2.2.1 P) :
  ∃ S',(IsSet S' ids.2.2.2.1 (fun p => P p || isIn q p) ∧ Keeps S S' [ids.2.2.2.1]) ∧
   ∀ J : U5 × Ids × List LV × Int × Int × List LV × Int × Int × Unit → List LV → Option R,
    rounds (G.steps_tangleOf.b4 k J) k (u5,ids,ls,n,i,l11,m,j,q.map .str,(q.length : Int),0,()) S = J (u5,ids,ls,n,i,l11,m,j,()) S' := by
 unfold Many at hk
 have h := loop_all (R := R) (b := fun J => G.steps_tangleOf.b4 k J) (x := fun t => (u5,ids,ls,n,i,l11,m,j,q.map LV.str,(q.length : Int),(t : Int),())) (n := q.length)
  (Inv := fun t S1 => IsSet S1 ids.2.2.2.1 (fun p => P p || isIn (q.take t) p) ∧ Keeps S S1 [ids.2.2.2.1])
  (out := fun (J : U5 × Ids × List LV × Int × Int × List LV × Int × Int × Unit → List LV → Option R) S' => J (u5,ids,ls,n,i,l11,m,j,()) S')
  (fun t S1 ht hI => ?_) (fun J rec S1 hI => ?_) k (by omega) S ⟨hS.congr (fun p => by simp [isIn]),Keeps.refl _ _⟩
 ·obtain ⟨S',⟨h1,h2⟩,h3⟩ := h
  rw [List.take_length] at h1
  exact ⟨S',⟨h1,h2⟩,h3⟩
 ·obtain ⟨S',h1,h2,h3⟩ := hI.1.put (R := R) (q.getD t (bs []))
  refine ⟨S',⟨h1.congr fun p => ?_,hI.2.trans h2⟩,fun J rec => ?_⟩
  ·unfold isIn
   rw [any_take _ q (bs []) t ht,Bool.or_assoc]
  ·unfold G.steps_tangleOf.b4
   dsimp only
   rw [lt_nat,ifB_pos ht,idxL_nat (by simpa using ht),map_str_get q t ht,asLeaf_str,h3,wrap_succ (by omega)]
 ·unfold G.steps_tangleOf.b4
  dsimp only
  rw [lt_nat,ifB_neg (Nat.lt_irrefl _)]
def over (l : List ByteArray) (p : ByteArray) : Bool := l.any fun q => isIn (aboveS q) p
theorem over_lies (l : List ByteArray) (p : ByteArray) : over l p = l.any fun q => liesS q p := by
 unfold over
 congr 1
 funext q
 rw [Bool.eq_iff_iff,isIn_iff,mem_above]
structure Tang (S : List LV) (ids : Ids) (O I OO OI : ByteArray → Bool) : Prop where
 o : IsSet S ids.1 O
 i : IsSet S ids.2.1 I
 oo : IsSet S ids.2.2.1 OO
 oi : IsSet S ids.2.2.2.1 OI
structure Apart (ids : Ids) : Prop where
 h12 : ids.1 ≠ ids.2.1
 h13 : ids.1 ≠ ids.2.2.1
 h14 : ids.1 ≠ ids.2.2.2.1
 h23 : ids.2.1 ≠ ids.2.2.1
 h24 : ids.2.1 ≠ ids.2.2.2.1
 h34 : ids.2.2.1 ≠ ids.2.2.2.1
def idL (ids : Ids) : List Nat := [ids.1,ids.2.1,ids.2.2.1,ids.2.2.2.1]
theorem tang_b1 {k : Nat} (hk : Many k) (ids : Ids) (hA : Apart ids) (r : Rule) (ls : List LV) (n i : Int) (hl : r.act.outs.length ≤ 100) (hp : ∀ p ∈ r.act.outs,p.size ≤ 300) {O I OO OI : ByteArray → Bool} (S : List LV) (hS : Tang S ids O I OO OI) :
  ∃ S',(Tang S' ids (fun p => O p || isIn r.act.outs p) I (fun p => OO p || over r.act.outs p) OI ∧ Keeps S S' (idL ids)) ∧
   ∀ J : U5 × Ids × RuleT × List LV × Int × Int × Unit → List LV → Option R,
    rounds (G.steps_tangleOf.b1 k J) k (u5,ids,r.tup,ls,n,i,r.act.outs.map .str,(r.act.outs.length : Int),0,()) S = J (u5,ids,r.tup,ls,n,i,()) S' := by
 have hk' := hk
 unfold Many at hk'
 generalize hq : r.act.outs = q at *
 have h := loop_all (R := R) (b := fun J => G.steps_tangleOf.b1 k J) (x := fun t => (u5,ids,r.tup,ls,n,i,q.map LV.str,(q.length : Int),(t : Int),())) (n := q.length)
  (Inv := fun t S1 => Tang S1 ids (fun p => O p || isIn (q.take t) p) I (fun p => OO p || over (q.take t) p) OI ∧ Keeps S S1 (idL ids))
  (out := fun (J : U5 × Ids × RuleT × List LV × Int × Int × Unit → List LV → Option R) S' => J (u5,ids,r.tup,ls,n,i,()) S')
  (fun t S1 ht hI => ?_) (fun J rec S1 hI => ?_) k (by omega) S ⟨⟨hS.o.congr (fun p => by simp [isIn]),hS.i,hS.oo.congr (fun p => by simp [over]),hS.oi⟩,Keeps.refl _ _⟩
 ·obtain ⟨S',⟨h1,h2⟩,h3⟩ := h
  rw [List.take_length] at h1
  exact ⟨S',⟨h1,h2⟩,h3⟩
 ·obtain ⟨hT,hK⟩ := hI
  have hsz : (q.getD t (bs [])).size ≤ 300 := hp _ (by rw [List.getD_eq_getElem?_getD,List.getElem?_eq_getElem ht]; exact List.getElem_mem ht)
  obtain ⟨S2,h1,h2,h3⟩ := hT.o.put (R := R) (q.getD t (bs []))
  have hoo := hT.oo.keeps h2 (by simp; exact Ne.symm hA.h13)
  have hlen : (aboveS (q.getD t (bs []))).length ≤ 300 := Nat.le_trans (aboveTo_len _ _) hsz
  obtain ⟨S3,⟨h4,h5⟩,h6⟩ := tang_b2 (R := R) hk ids r.tup ls n i (q.map LV.str) (q.length : Int) (t : Int) (aboveS (q.getD t (bs []))) hlen _ S2 hoo
  refine ⟨S3,⟨⟨(h1.keeps h5 (by simp; exact hA.h13)).congr fun p => ?_,(hT.i.keeps h2 (by simp; exact Ne.symm hA.h12)).keeps h5 (by simp; exact hA.h23),h4.congr fun p => ?_,(hT.oi.keeps h2 (by simp; exact Ne.symm hA.h14)).keeps h5 (by simp; exact Ne.symm hA.h34)⟩,hK.trans ((h2.weak ?_).trans (h5.weak ?_))⟩,fun J rec => ?_⟩
  ·unfold isIn
   rw [any_take _ q (bs []) t ht,Bool.or_assoc]
  ·unfold over
   rw [any_take _ q (bs []) t ht,Bool.or_assoc]
  ·intro m hm; left; simp at hm; simp [idL,hm]
  ·intro m hm; left; simp at hm; simp [idL,hm]
  ·unfold G.steps_tangleOf.b1
   dsimp only
   rw [lt_nat,ifB_pos ht,idxL_nat (by simpa using ht),map_str_get q t ht,asLeaf_str,h3,prog_above hk _ hsz]
   dsimp only
   rw [List.length_map,h6]
   dsimp only
   rw [wrap_succ (by omega)]
 ·unfold G.steps_tangleOf.b1
  dsimp only
  rw [lt_nat,ifB_neg (Nat.lt_irrefl _)]
theorem tang_b3 {k : Nat} (hk : Many k) (ids : Ids) (hA : Apart ids) (ls : List LV) (n i : Int) (q : List ByteArray) (hl : q.length ≤ 1000) (hp : ∀ p ∈ q,p.size ≤ 300) {O I OO OI : ByteArray → Bool} (S : List LV) (hS : Tang S ids O I OO OI) :
  ∃ S',(Tang S' ids O (fun p => I p || isIn q p) OO (fun p => OI p || over q p) ∧ Keeps S S' (idL ids)) ∧
   ∀ J : U5 × Ids × List LV × Int × Int × Unit → List LV → Option R,
    rounds (G.steps_tangleOf.b3 k J) k (u5,ids,ls,n,i,q.map .str,(q.length : Int),0,()) S = J (u5,ids,ls,n,i,()) S' := by
 have hk' := hk
 unfold Many at hk'
 have h := loop_all (R := R) (b := fun J => G.steps_tangleOf.b3 k J) (x := fun t => (u5,ids,ls,n,i,q.map LV.str,(q.length : Int),(t : Int),())) (n := q.length)
  (Inv := fun t S1 => Tang S1 ids O (fun p => I p || isIn (q.take t) p) OO (fun p => OI p || over (q.take t) p) ∧ Keeps S S1 (idL ids))
  (out := fun (J : U5 × Ids × List LV × Int × Int × Unit → List LV → Option R) S' => J (u5,ids,ls,n,i,()) S')
  (fun t S1 ht hI => ?_) (fun J rec S1 hI => ?_) k (by omega) S ⟨⟨hS.o,hS.i.congr (fun p => by simp [isIn]),hS.oo,hS.oi.congr (fun p => by simp [over])⟩,Keeps.refl _ _⟩
 ·obtain ⟨S',⟨h1,h2⟩,h3⟩ := h
  rw [List.take_length] at h1
  exact ⟨S',⟨h1,h2⟩,h3⟩
 ·obtain ⟨hT,hK⟩ := hI
  have hsz : (q.getD t (bs [])).size ≤ 300 := hp _ (by rw [List.getD_eq_getElem?_getD,List.getElem?_eq_getElem ht]; exact List.getElem_mem ht)
  obtain ⟨S2,h1,h2,h3⟩ := hT.i.put (R := R) (q.getD t (bs []))
  have hoo := hT.oi.keeps h2 (by simp; exact Ne.symm hA.h24)
  have hlen : (aboveS (q.getD t (bs []))).length ≤ 300 := Nat.le_trans (aboveTo_len _ _) hsz
  obtain ⟨S3,⟨h4,h5⟩,h6⟩ := tang_b4 (R := R) hk ids ls n i (q.map LV.str) (q.length : Int) (t : Int) (aboveS (q.getD t (bs []))) hlen _ S2 hoo
  refine ⟨S3,⟨⟨(hT.o.keeps h2 (by simp; exact hA.h12)).keeps h5 (by simp; exact hA.h14),(h1.keeps h5 (by simp; exact hA.h24)).congr fun p => ?_,(hT.oo.keeps h2 (by simp; exact Ne.symm hA.h23)).keeps h5 (by simp; exact hA.h34),h4.congr fun p => ?_⟩,hK.trans ((h2.weak ?_).trans (h5.weak ?_))⟩,fun J rec => ?_⟩
  ·unfold isIn
   rw [any_take _ q (bs []) t ht,Bool.or_assoc]
  ·unfold over
   rw [any_take _ q (bs []) t ht,Bool.or_assoc]
  ·intro m hm; left; simp at hm; simp [idL,hm]
  ·intro m hm; left; simp at hm; simp [idL,hm]
  ·unfold G.steps_tangleOf.b3
   dsimp only
   rw [lt_nat,ifB_pos ht,idxL_nat (by simpa using ht),map_str_get q t ht,asLeaf_str,h3,prog_above hk _ hsz]
   dsimp only
   rw [List.length_map,h6]
   dsimp only
   rw [wrap_succ (by omega)]
 ·unfold G.steps_tangleOf.b3
  dsimp only
  rw [lt_nat,ifB_neg (Nat.lt_irrefl _)]
end
end Go.Lm
set_option maxRecDepth 100000
namespace Go.Lm
section
variable {R : Type}
structure RuleFit (r : Rule) : Prop where
 on : r.act.outs.length ≤ 100
 os : ∀ p ∈ r.act.outs,p.size ≤ 300
 im : r.ins.length ≤ 1000
 is : ∀ p ∈ r.ins,p.size ≤ 300
def outsIn (l : List Rule) (p : ByteArray) : Bool := l.any fun r => isIn r.act.outs p
def insIn (l : List Rule) (p : ByteArray) : Bool := l.any fun r => isIn r.ins p
def overOuts (l : List Rule) (p : ByteArray) : Bool := l.any fun r => over r.act.outs p
def overIns (l : List Rule) (p : ByteArray) : Bool := l.any fun r => over r.ins p
theorem tang_b0 {k : Nat} (hk : Many k) (ids : Ids) (hA : Apart ids) (l : List Rule) (hn : l.length ≤ 500) (hf : ∀ r ∈ l,RuleFit r) (S : List LV) (hS : Tang S ids (fun _ => false) (fun _ => false) (fun _ => false) (fun _ => false)) :
  ∃ S',(Tang S' ids (outsIn l) (insIn l) (overOuts l) (overIns l) ∧ Keeps S S' (idL ids)) ∧
   ∀ J : U5 × Ids × Unit → List LV → Option R,rounds (G.steps_tangleOf.b0 k J) k (u5,ids,l.map Rule.lv,(l.length : Int),0,()) S = J (u5,ids,()) S' := by
 have hk' := hk
 unfold Many at hk'
 have h := loop_all (R := R) (b := fun J => G.steps_tangleOf.b0 k J) (x := fun t => (u5,ids,l.map Rule.lv,(l.length : Int),(t : Int),())) (n := l.length)
  (Inv := fun t S1 => Tang S1 ids (outsIn (l.take t)) (insIn (l.take t)) (overOuts (l.take t)) (overIns (l.take t)) ∧ Keeps S S1 (idL ids))
  (out := fun (J : U5 × Ids × Unit → List LV → Option R) S' => J (u5,ids,()) S')
  (fun t S1 ht hI => ?_) (fun J rec S1 hI => ?_) k (by omega) S ⟨hS,Keeps.refl _ _⟩
 ·obtain ⟨S',⟨h1,h2⟩,h3⟩ := h
  rw [List.take_length] at h1
  exact ⟨S',⟨h1,h2⟩,h3⟩
 ·obtain ⟨hT,hK⟩ := hI
  have fit := hf _ (rule_mem l t ht)
  obtain ⟨S2,⟨h1,h2⟩,h3⟩ := tang_b1 (R := R) hk ids hA (l.getD t .zero) (l.map Rule.lv) (l.length : Int) (t : Int) fit.on fit.os S1 hT
  obtain ⟨S3,⟨h4,h5⟩,h6⟩ := tang_b3 (R := R) hk ids hA (l.map Rule.lv) (l.length : Int) (t : Int) (l.getD t .zero).ins fit.im fit.is S2 h1
  refine ⟨S3,⟨⟨h4.o.congr fun p => ?_,h4.i.congr fun p => ?_,h4.oo.congr fun p => ?_,h4.oi.congr fun p => ?_⟩,hK.trans (h2.trans h5)⟩,fun J rec => ?_⟩
  ·unfold outsIn; rw [any_take _ l .zero t ht]
  ·unfold insIn; rw [any_take _ l .zero t ht]
  ·unfold overOuts; rw [any_take _ l .zero t ht]
  ·unfold overIns; rw [any_take _ l .zero t ht]
  ·unfold G.steps_tangleOf.b0
   dsimp only
   rw [lt_nat,ifB_pos ht,idxL_nat (by simpa using ht),rule_get l t ht,Rule.mat,rule_cells,List.length_map]
   refine (h3 _).trans ?_
   dsimp only
   rw [List.length_map]
   refine (h6 _).trans ?_
   dsimp only
   rw [wrap_succ (by omega)]
 ·unfold G.steps_tangleOf.b0
  dsimp only
  rw [lt_nat,ifB_neg (Nat.lt_irrefl _)]
theorem prog_tangleOf {k : Nat} (hk : Many k) (l : List Rule) (hn : l.length ≤ 500) (hf : ∀ r ∈ l,RuleFit r) (S : List LV) :
  ∃ S',∃ ids : Ids,(Apart ids ∧ Tang S' ids (outsIn l) (insIn l) (overOuts l) (overIns l) ∧ Keeps S S' [] ∧ ∀ i ∈ idL ids,S.length ≤ i) ∧
   ∀ K : Ids × Unit → List LV → Option R,G.steps_tangleOf.fn k (l.map Rule.lv,()) S K = K (ids,()) S' := by
 let ids : Ids := (S.length,S.length + 1,S.length + 2,S.length + 3,())
 let S4 : List LV := S ++ [.mp .str []] ++ [.mp .str []] ++ [.mp .str []] ++ [.mp .str []]
 have hA : Apart ids := ⟨by simp [ids],by simp [ids],by simp [ids],by simp [ids],by simp [ids],by simp [ids]⟩
 have e : ∀ T : List LV,IsSet (T ++ [.mp .str []]) T.length fun _ => false := IsSet.empty
 have g : ∀ (T : List LV) (id : Nat) (v : LV),IsSet T id (fun _ => false) → IsSet (T ++ [v]) id (fun _ => false) := fun T id v h => h.keeps (Keeps.app T [v] []) (by simp)
 have hT : Tang S4 ids (fun _ => false) (fun _ => false) (fun _ => false) (fun _ => false) :=
  ⟨g _ _ _ (g _ _ _ (g _ _ _ (e S))),g _ _ _ (g _ _ _ (by have := e (S ++ [.mp .str []]); simpa [ids] using this)),g _ _ _ (by have := e (S ++ [.mp .str []] ++ [.mp .str []]); simpa [ids] using this),by have := e (S ++ [.mp .str []] ++ [.mp .str []] ++ [.mp .str []]); simpa [ids,S4] using this⟩
 obtain ⟨S',⟨h1,h2⟩,h3⟩ := tang_b0 (R := R) hk ids hA l hn hf S4 hT
 have hm : ∀ i ∈ idL ids,S.length ≤ i := by
  intro i hi
  simp [idL,ids] at hi
  omega
 have hS4 : Keeps S S4 [] := by
  have : S4 = S ++ [.mp .str [],.mp .str [],.mp .str [],.mp .str []] := by simp [S4]
  rw [this]; exact Keeps.app _ _ _
 refine ⟨S',ids,⟨hA,h1,⟨Nat.le_trans hS4.1 h2.1,fun j hj _ => ?_⟩,hm⟩,fun K => ?_⟩
 ·rw [h2.2 j (Nat.lt_of_lt_of_le hj hS4.1) (fun hc => by have := hm j hc; omega),hS4.2 j hj (by simp)]
 ·unfold G.steps_tangleOf.fn newObj
  dsimp only
  rw [List.length_map]
  have := h3 fun o S => K ((o.2.1.1,o.2.1.2.1,o.2.1.2.2.1,o.2.1.2.2.2.1,()),()) S
  simp only [ids,S4] at this ⊢
  simp only [List.length_append,List.length_cons,List.length_nil,Nat.zero_add] at this ⊢
  exact this
def clashesS (l : List Rule) (p : ByteArray) : Bool := overIns l p || (aboveS p).any fun q => outsIn l q || insIn l q
theorem clash_one (k : Nat) (ids : Ids) (O I OO OI : ByteArray → Bool) (S : List LV) (hT : Tang S ids O I OO OI) (id : Nat) (hid : S.getD id .any = .obj 92 [.map ids.1,.map ids.2.1,.map ids.2.2.1,.map ids.2.2.2.1]) (q : ByteArray) (K : Bool × Unit → List LV → Option R) :
  G.steps_tangle_clashes_1.fn k (q,(id,0),()) S K = K (O q || I q,()) S := by
 unfold G.steps_tangle_clashes_1.fn
 dsimp only
 rw [at_of hid]
 have e : ∀ K : LV → Option R,ldRaw [LV.map ids.1,.map ids.2.1,.map ids.2.2.1,.map ids.2.2.2.1] (0 + 0) K = K (.map ids.1) := fun K => rfl
 have e1 : ∀ K : LV → Option R,ldRaw [LV.map ids.1,.map ids.2.1,.map ids.2.2.1,.map ids.2.2.2.1] (0 + 1) K = K (.map ids.2.1) := fun K => rfl
 have e2 : ∀ i (K : Nat → Option R),asMap (.map i) K = K i := fun i K => rfl
 rw [e,e2,hT.o.get]
 cases O q with
 | true => rfl
 | false =>
  rw [ifB_false,at_of hid,e1,e2,hT.i.get]; rfl
theorem clash_any {k : Nat} (hk : Many k) (ids : Ids) (O I OO OI : ByteArray → Bool) (S : List LV) (hT : Tang S ids O I OO OI) (id : Nat) (hid : S.getD id .any = .obj 92 [.map ids.1,.map ids.2.1,.map ids.2.2.1,.map ids.2.2.2.1]) (q : List ByteArray) (hq : q.length ≤ 300) (K : Bool × Unit → List LV → Option R) :
  G.slices_ContainsFunc_s_string_string_at_steps_tangle_clashes_1.fn k (q.map .str,((id,0),()),()) S K = K (q.any (fun p => O p || I p),()) S := by
 unfold Many at hk
 unfold G.slices_ContainsFunc_s_string_string_at_steps_tangle_clashes_1.fn G.slices_IndexFunc_s_string_string_at_steps_tangle_clashes_1.fn
 dsimp only
 rw [List.length_map]
 refine (rounds_scan0 (fun t => (q.map LV.str,((id,0),()),(q.length : Int),(t : Int),())) S q.length k (fun t => cond (O (q.getD t (bs [])) || I (q.getD t (bs []))) (some (K (true,()) S)) none) (K (false,()) S) (fun rec t ht => ?_) (fun rec => ?_) (by omega)).trans ?_
 ·unfold G.slices_IndexFunc_s_string_string_at_steps_tangle_clashes_1.b0
  dsimp only
  rw [lt_nat,ifB_pos ht,idxL_nat (by simpa using ht),map_str_get q t ht,asLeaf_str,clash_one k ids O I OO OI S hT id hid,wrap_succ (by omega)]
  cases O (q.getD t (bs [])) || I (q.getD t (bs [])) with
  | true =>
   dsimp only [cond]
   rw [ifB_true,decide_eq_true (show ((t : Int)) ≥ 0 by omega)]
  | false => rfl
 ·unfold G.slices_IndexFunc_s_string_string_at_steps_tangle_clashes_1.b0
  dsimp only
  rw [lt_nat,ifB_neg (Nat.lt_irrefl _)]; rfl
 ·rw [scan_first0 (bs []) (fun p => O p || I p)]
  cases q.any fun p => O p || I p <;> rfl
theorem prog_clash {k : Nat} (hk : Many k) (l : List Rule) (ids : Ids) (S : List LV) {OO : ByteArray → Bool} (hT : Tang S ids (outsIn l) (insIn l) OO (overIns l)) (p : ByteArray) (hp : p.size ≤ 300) :
  ∃ S',Keeps S S' [] ∧ ∀ K : Bool × Unit → List LV → Option R,G.steps_tangle_clashes.fn k (ids,p,()) S K = K (clashesS l p,()) S' := by
 let ob : LV := .obj 92 [.map ids.1,.map ids.2.1,.map ids.2.2.1,.map ids.2.2.2.1]
 have hk1 : Keeps S (S ++ [ob]) [] := Keeps.app _ _ _
 refine ⟨S ++ [ob],hk1,fun K => ?_⟩
 have hT1 : Tang (S ++ [ob]) ids (outsIn l) (insIn l) OO (overIns l) := ⟨hT.o.keeps hk1 (by simp),hT.i.keeps hk1 (by simp),hT.oo.keeps hk1 (by simp),hT.oi.keeps hk1 (by simp)⟩
 have hid : (S ++ [ob]).getD S.length .any = ob := get_end _ _
 unfold G.steps_tangle_clashes.fn newObj clashesS
 dsimp only
 rw [at_of hid]
 have e : ∀ K : LV → Option R,ldRaw [LV.map ids.1,.map ids.2.1,.map ids.2.2.1,.map ids.2.2.2.1] 3 K = K (.map ids.2.2.2.1) := fun K => rfl
 have e2 : ∀ i (K : Nat → Option R),asMap (.map i) K = K i := fun i K => rfl
 rw [e,e2,hT1.oi.get]
 cases overIns l p with
 | true => rfl
 | false =>
  rw [ifB_false,prog_above hk p hp]
  dsimp only
  rw [clash_any hk ids (outsIn l) (insIn l) OO (overIns l) _ hT1 S.length hid (aboveS p) (Nat.le_trans (aboveTo_len _ _) hp)]
  rfl
end
end Go.Lm
set_option maxRecDepth 100000
namespace Go.Lm
section
variable {R : Type}
structure RulesOk (l : List Rule) : Prop where
 n : l.length ≤ 140737488355328
 r : ∀ r ∈ l,RuleOk r
 on : ∀ r ∈ l,r.act.outs.length ≤ 140737488355328
 is : ∀ r ∈ l,∀ p ∈ r.ins,p.size ≤ 140737488355328
def ruleName (l : List Rule) (i : Nat) : ByteArray := (l.getD i .zero).name
def nameE (l : List Rule) (i : Nat) : Option Int := cond (ruleS (l.getD i .zero) == 0) (cond (decide (0 < i) && (strLt (ruleName l i) (ruleName l (i - 1)) || strEq (ruleName l i) (ruleName l (i - 1)))) (some 8) none) (some (ruleS (l.getD i .zero)))
def clashOuts (l : List Rule) (i : Nat) (p : ByteArray) (k : Nat) : Bool := (!(k == i)) && (l.getD k .zero).act.outs.any fun q => liesS p q
def clashIns (l : List Rule) (p : ByteArray) (k : Nat) : Bool := (l.getD k .zero).ins.any fun q => liesS p q || liesS q p
def clashAt (l : List Rule) (i : Nat) (p : ByteArray) (k : Nat) : Bool := clashOuts l i p k || clashIns l p k
def refClash (l : List Rule) (i : Nat) (p : ByteArray) : Bool := (List.range l.length).any (clashAt l i p)
def outE (l : List Rule) (i : Nat) (p : ByteArray) : Option Int := cond (outsIn (l.take i) p) (some 7) (cond (refClash l i p) (some 12) none)
def outAt (l : List Rule) (i j : Nat) : ByteArray := (l.getD i .zero).act.outs.getD j (bs [])
def ruleOutE (l : List Rule) (i : Nat) : Option Int := scanE (fun j => outE l i (outAt l i j)) (l.getD i .zero).act.outs.length 0
def allOutE (l : List Rule) : Option Int := scanE (ruleOutE l) l.length 0
end
end Go.Lm
set_option maxRecDepth 100000
namespace Go.Lm
section
variable {R : Type}
def ints (l : List Nat) : List LV := l.map fun (n : Nat) => LV.int .i64 (n : Int)
def bools (l : List Bool) : List LV := l.map LV.bool
theorem ints_len (l : List Nat) : (ints l).length = l.length := by simp [ints]
theorem bools_len (l : List Bool) : (bools l).length = l.length := by simp [bools]
theorem ints_get (l : List Nat) (i : Nat) (h : i < l.length) : (ints l).getD i .any = .int .i64 ((l.getD i 0 : Nat) : Int) := by simp [ints,List.getD_eq_getElem?_getD,h]
theorem bools_get (l : List Bool) (i : Nat) (h : i < l.length) : (bools l).getD i .any = .bool (l.getD i false) := by simp [bools,List.getD_eq_getElem?_getD,h]
theorem ints_snoc (l : List Nat) (n : Nat) : ints l ++ [.int .i64 (n : Int)] = ints (l ++ [n]) := by simp [ints]
theorem leaf_int (n : Int) (K : Int → Option R) : asInt .i64 (leaf (.int .i64 n) 0) K = K n := asInt_int _ _ _
theorem idxN_nat {n i : Nat} (h : i < n) (K : Nat → Option R) : idxN n (i : Int) K = K i := by
 unfold idxN
 rw [ifB_pos ⟨by omega,by omega⟩,Int.toNat_natCast]
theorem zeros_bool (n : Nat) : zeros n [.bool false] = bools (List.replicate n false) := by
 unfold zeros bools
 rw [List.map_replicate]
 induction n with
 | zero => rfl
 | succ n ih => rw [List.replicate_succ,List.flatten_cons,ih]; rfl
theorem zeros_nil (n : Nat) (v : LV) : zeros n [v] = List.replicate n v := by
 unfold zeros
 induction n with
 | zero => rfl
 | succ n ih => rw [List.replicate_succ,List.flatten_cons,ih]; rfl
theorem mkN_nat {n b : Nat} (h : b * n ≤ 140737488355328) (K : Nat → Option R) (hb : n ≤ 140737488355328) : mkN (n : Int) b K = K n := by
 unfold mkN
 rw [ifB_pos ⟨by omega,by rw [← Int.natCast_mul]; omega,by omega⟩,Int.toNat_natCast]
def BoolsAt (S : List LV) (id : Nat) (d : List Bool) : Prop := S.getD id .any = .obj 4 (bools d)
theorem BoolsAt.ld {S : List LV} {id : Nat} {d : List Bool} (h : BoolsAt S id d) {i : Nat} (hi : i < d.length) (K : Bool → Option R) : (objAt S id fun _ c => ldBool c (0 + i * 1) K) = K (d.getD i false) := by
 rw [at_of h]
 unfold ldBool
 rw [Nat.zero_add,Nat.mul_one,bools_len,show Nat.blt i d.length = true from Nat.ble_eq_true_of_le hi,ifB_true,bools_get d i hi]
 rfl
theorem setFrom_one (xs : List LV) (i : Nat) (v : LV) (_h : i < xs.length) : setFrom xs i [v] = xs.set i v := rfl
theorem bools_set (d : List Bool) (i : Nat) (b : Bool) : (bools d).set i (.bool b) = bools (d.set i b) := by simp [bools,List.map_set]
theorem BoolsAt.st {S : List LV} {id : Nat} {d : List Bool} (h : BoolsAt S id d) {i : Nat} (hi : i < d.length) (b : Bool) (K : List LV → Option R) :
  (objAt S id fun ty c => stO c (0 + i * 1) [.bool b] fun c' => setS (S.set id (ty c')) K) = K (S.set id (.obj 4 (bools (d.set i b)))) := by
 rw [at_of h]
 unfold stO
 have hl : i < (bools d).length := by rw [bools_len]; exact hi
 rw [Nat.zero_add,Nat.mul_one,show Nat.ble (i + ([LV.bool b] : List LV).length) (bools d).length = true from Nat.ble_eq_true_of_le hl,ifB_true,setFrom_one _ _ _ hl,bools_set]
 rfl
theorem BoolsAt.set {S : List LV} {id : Nat} {d : List Bool} (h : BoolsAt S id d) (d' : List Bool) : BoolsAt (S.set id (.obj 4 (bools d'))) id d' := has_set h _
def rdyS (need : List Nat) (d : List Bool) : Bool := need.all fun k => d.getD k false
def Small (need : List (List Nat)) : Prop := need.length ≤ 500 ∧ ∀ r ∈ need,r.length ≤ 500 ∧ ∀ k ∈ r,k < need.length
theorem Small.get {need : List (List Nat)} (h : Small need) (i : Nat) (hi : i < need.length) : (need.getD i []).length ≤ 500 ∧ ∀ k ∈ need.getD i [],k < need.length :=
 h.2 _ (by rw [List.getD_eq_getElem?_getD,List.getElem?_eq_getElem hi]; exact List.getElem_mem hi)
def goodAt (need : List (List Nat)) (inn d : List Bool) (i : Nat) : Bool := inn.getD i false && !(d.getD i false) && rdyS (need.getD i []) d
def leftAt (inn d : List Bool) (i : Nat) : Bool := inn.getD i false && !(d.getD i false)
def nextS (need : List (List Nat)) (inn d : List Bool) : Option Nat := (List.range need.length).find? (goodAt need inn d)
def ordS (need : List (List Nat)) (inn : List Bool) : Nat → List Bool → List Nat → List Nat × Bool
 | 0,_,out => (out,false)
 | f + 1,d,out => match nextS need inn d with
  | some i => ordS need inn f (d.set i true) (out ++ [i])
  | none => (out,!((List.range need.length).any (leftAt inn d)))
def orderedS (need : List (List Nat)) (inn : List Bool) : List Nat × Bool := ordS need inn (need.length + 1) (List.replicate need.length false) []
theorem nextS_some {need : List (List Nat)} {inn d : List Bool} {i : Nat} (h : nextS need inn d = some i) : i < need.length ∧ goodAt need inn d i = true :=
 ⟨List.mem_range.1 (List.mem_of_find?_eq_some h),List.find?_some h⟩
theorem count_set {d : List Bool} {i : Nat} (hi : i < d.length) (h : d.getD i false = false) : (d.set i true).count false + 1 = d.count false := by
 induction d generalizing i with
 | nil => simp at hi
 | cons b d ih =>
  cases i with
  | zero =>
   have : b = false := h
   subst this
   simp
  | succ i =>
   have := ih (i := i) (by simpa using hi) h
   simp only [List.set_cons_succ,List.count_cons]
   omega
end
end Go.Lm
set_option maxRecDepth 100000
namespace Go.Lm
section
variable {R : Type}
def usesS (l : List Rule) (i k : Nat) : Bool := (l.getD k .zero).act.outs.any fun q => isIn (l.getD i .zero).ins q
def needsTo (l : List Rule) (i t : Nat) : List Nat := (List.range t).filter (usesS l i)
def needsS (l : List Rule) (i : Nat) : List Nat := needsTo l i l.length
def needsAll (l : List Rule) : List (List Nat) := (List.range l.length).map (needsS l)
def rowR (l : List Nat) : LV := match l with
 | [] => .nilsl
 | l => .own 3 1 (ints l)
theorem rowR_own (l : List Nat) (K : List LV → Option R) : asOwn 3 1 (rowR l) K = K (ints l) := by
 cases l <;> rfl
theorem rowR_snoc (l : List Nat) (n : Nat) : LV.own 3 1 (ints (l ++ [n])) = rowR (l ++ [n]) := by
 cases l <;> rfl
def RowsObj (S : List LV) (id n : Nat) (f : Nat → List Nat) : Prop := S.getD id .any = .obj 45 ((List.range n).map fun i => rowR (f i))
theorem set_range {n i : Nat} (g : Nat → LV) (v : LV) : ((List.range n).map g).set i v = (List.range n).map fun j => cond (j == i) v (g j) := by
 apply List.ext_getElem?
 intro j
 rw [List.getElem?_set,List.getElem?_map,List.getElem?_map]
 rcases Nat.lt_or_ge j n with h | h
 ·rw [List.getElem?_range h]
  by_cases e : i = j
  ·subst e; simp [h]
  ·simp [e,show (j == i) = false by simp; omega]
 ·have : (List.range n)[j]? = none := by simp [h]
  rw [this]
  by_cases e : i = j
  ·subst e; simp; omega
  ·simp [e]
theorem needsTo_len (l : List Rule) (i t : Nat) : (needsTo l i t).length ≤ t := by
 have := List.length_filter_le (usesS l i) (List.range t)
 rw [List.length_range] at this
 exact this
theorem needs_small (l : List Rule) (hn : l.length ≤ 500) : Small (needsAll l) := by
 refine ⟨by simp [needsAll,hn],fun r hr => ?_⟩
 unfold needsAll at hr
 obtain ⟨i,hi,rfl⟩ := List.mem_map.1 hr
 have := needsTo_len l i l.length
 refine ⟨by unfold needsS; omega,fun k hk => ?_⟩
 unfold needsS needsTo at hk
 have := List.mem_range.1 (List.mem_filter.1 hk).1
 simpa [needsAll] using this
theorem needsAll_len (l : List Rule) : (needsAll l).length = l.length := by simp [needsAll]
end
end Go.Lm
set_option maxRecDepth 100000
namespace Go.Lm
section
variable {R : Type}
def loopS (l : List Rule) : Int := cond (orderedS (needsAll l) (List.replicate l.length true)).2 0 17
def checkRulesS (l : List Rule) : Int := cond (decide (l.length > 500)) 2 ((firstE (nameE l) l.length).getD ((allOutE l).getD (loopS l)))
theorem outE_pos (l : List Rule) (i : Nat) (p : ByteArray) (e : Int) (h : outE l i p = some e) : e ≠ 0 := by
 unfold outE at h
 cases h1 : outsIn (l.take i) p <;> rw [h1] at h
 ·cases h2 : refClash l i p <;> rw [h2] at h
  ·cases h
  ·cases h; decide
 ·cases h; decide
theorem str_mem (l : List ByteArray) (j : Nat) (h : j < l.length) : l.getD j (bs []) ∈ l := by
 rw [List.getD_eq_getElem?_getD,List.getElem?_eq_getElem h]; exact List.getElem_mem h
theorem name_prev (l : List Rule) (i : Nat) (hi : i < l.length) (hl : l.length ≤ 500) (s : ByteArray) (a : Option R) (J : Option R) :
  ifB (decide ((i : Int) > 0)) (idxL (l.map Rule.lv) (IntKind.wrap .i64 ((i : Int) - 1)) fun v => asStr (leaf v 0) fun t => ifB (strLt s t || strEq s t) a J) J =
   cond (decide (0 < i) && (strLt s (ruleName l (i - 1)) || strEq s (ruleName l (i - 1)))) a J := by
 by_cases h0 : 0 < i
 ·rw [ifB_pos (show (i : Int) > 0 by omega),decide_eq_true h0,wrap_pred h0 (by omega),idxL_nat (by simp; omega),rule_get l _ (by omega),rule_name,Bool.true_and]
  unfold ruleName
  cases (strLt s (l.getD (i - 1) .zero).name || strEq s (l.getD (i - 1) .zero).name) <;> rfl
 ·rw [ifB_neg (show ¬ (i : Int) > 0 by omega),decide_eq_false h0]; rfl
end
end Go.Lm
set_option maxRecDepth 100000
namespace Go.Lm
section
variable {R : Type}
theorem op_b0 {k : Nat} (hk : Many k) (l : List Rule) (ok : RulesOk l) (hn : l.length ≤ 500) (S : List LV) (J : List LV × Unit → List LV → Option R) (Jr : LV × Int × Unit → List LV → Option R) :
  rounds (G.steps_open.b0 k J Jr) k (l.map Rule.lv,l.map Rule.lv,(l.length : Int),0,()) S = ((firstE (nameE l) l.length).map fun e => Jr (.nilp,e,()) S).getD (J (l.map Rule.lv,()) S) := by
 have hk' := hk
 unfold Many at hk'
 unfold firstE
 rw [← scan_firstE]
 refine rounds_scan0 (fun i => (l.map Rule.lv,l.map Rule.lv,(l.length : Int),(i : Int),())) S l.length k _ _ (fun rec i hi => ?_) (fun rec => ?_) (by omega)
 ·have hget : ∀ (K : LV → Option R),idxL (l.map Rule.lv) (i : Int) K = K (l.getD i .zero).lv := fun K => by rw [idxL_nat (by simpa using hi),rule_get l i hi]
  unfold G.steps_open.b0
  dsimp only
  rw [lt_nat,ifB_pos hi,hget,Rule.mat,rule_cells]
  refine (prog_checkRule hk _ (ok.r _ (rule_mem l i hi)) S _).trans ?_
  dsimp only
  simp only [name_prev l i hi hn,wrap_succ (show i < 9223372036854775807 by omega)]
  unfold nameE
  rw [ne0,show (l.getD i .zero).name = ruleName l i from rfl]
  cases ruleS (l.getD i .zero) == 0 with
  | false => rfl
  | true =>
   generalize (decide (0 < i) && (strLt (ruleName l i) (ruleName l (i - 1)) || strEq (ruleName l i) (ruleName l (i - 1)))) = b
   cases b <;> rfl
 ·unfold G.steps_open.b0
  dsimp only
  rw [lt_nat,ifB_neg (Nat.lt_irrefl _)]
def ofN (l : List Rule) : Nat → ByteArray → Option Nat
 | 0,_ => none
 | i + 1,p => cond (isIn (l.getD i .zero).act.outs p) (some i) (ofN l i p)
def ofTo (l : List Rule) (i j : Nat) (p : ByteArray) : Option Nat := cond (isIn ((l.getD i .zero).act.outs.take j) p) (some i) (ofN l i p)
def ofV (o : Option Nat) : Option LV := o.map fun (k : Nat) => LV.int .i64 (k : Int)
theorem ofN_some (l : List Rule) (p : ByteArray) : ∀ i,i ≤ l.length → (ofN l i p).isSome = outsIn (l.take i) p
 | 0,_ => rfl
 | i + 1,h => by
  have ih := ofN_some l p i (by omega)
  unfold outsIn at ih ⊢
  rw [any_take _ l .zero i (by omega),← ih]
  show (cond (isIn (l.getD i .zero).act.outs p) (some i) (ofN l i p)).isSome = _
  cases isIn (l.getD i .zero).act.outs p <;> simp
structure PlanAt (S : List LV) (id : Nat) (l : List Rule) (f : ByteArray → Option Nat) (deps : LV) : Prop where
 map : ∃ m,IsMap S id m fun p => ofV (f p)
 plan : S.getD (id + 1) .any = .obj 66 [.sl 8 (l.map Rule.lv),.map id,deps]
theorem PlanAt.keeps {S S' : List LV} {id : Nat} {l : List Rule} {f : ByteArray → Option Nat} {deps : LV} {M : List Nat} (h : PlanAt S id l f deps) (hk : Keeps S S' M) (h1 : id ∉ M) (h2 : id + 1 ∉ M) : PlanAt S' id l f deps := by
 obtain ⟨⟨m,hm⟩,hp⟩ := h
 exact ⟨⟨m,hm.keeps hk h1⟩,hk.get hp (by simp) h2⟩
theorem plan_map (l : List LV) (id : Nat) (deps : LV) (K : LV → Option R) : ldRaw [.sl 8 l,.map id,deps] (0 + 1) K = K (.map id) := rfl
theorem asMap_map (id : Nat) (K : Nat → Option R) : asMap (.map id) K = K id := rfl
theorem of_int (o : Option Nat) (K : Int → Option R) : asInt .i64 ((ofV o).getD (.int .i64 0)) K = K ((o.getD 0 : Nat) : Int) := by
 cases o with
 | none => exact asInt_int _ _ _
 | some k => exact asInt_int _ _ _
theorem of_some (o : Option Nat) : (ofV o).isSome = o.isSome := by cases o <;> rfl
structure RulesFit (l : List Rule) : Prop where
 n : l.length ≤ 500
 fit : ∀ r ∈ l,RuleFit r
 dist : ∀ r ∈ l,∀ j,j < r.act.outs.length → isIn (r.act.outs.take j) (r.act.outs.getD j (bs [])) = false
 clash : ∀ i,i < l.length → ∀ j,j < (l.getD i .zero).act.outs.length → refClash l i (outAt l i j) = clashesS l (outAt l i j)
abbrev OpT := List LV × (Nat × Nat) × Ids × List LV × Int × Int × Unit
theorem op_b2 {k : Nat} (hk : Many k) (l : List Rule) (fit : RulesFit l) (id : Nat) (ids : Ids) (hid : ∀ x ∈ idL ids,x ≠ id ∧ x ≠ id + 1) (i : Nat) (hi : i < l.length) (ii : Int) (S : List LV) (hP : PlanAt S id l (ofN l i) .nilsl) (hT : Tang S ids (outsIn l) (insIn l) (overOuts l) (overIns l)) :
  ∃ S',(∀ e,ruleOutE l i = some e → Keeps S S' [id]) ∧ (ruleOutE l i = none → PlanAt S' id l (ofN l (i + 1)) .nilsl ∧ Tang S' ids (outsIn l) (insIn l) (overOuts l) (overIns l) ∧ Keeps S S' [id]) ∧
   ∀ q : (OpT → List LV → Option R) × (LV × Int × Unit → List LV → Option R),rounds (G.steps_open.b2 k q.1 q.2) k (l.map Rule.lv,(id + 1,0),ids,(i : Int),l.map Rule.lv,(l.length : Int),ii,(l.getD i .zero).act.outs.map .str,((l.getD i .zero).act.outs.length : Int),0,()) S =
    (match ruleOutE l i with | some e => q.2 (.nilp,e,()) S' | none => q.1 (l.map Rule.lv,(id + 1,0),ids,l.map Rule.lv,(l.length : Int),ii,()) S') := by
 have hk' := hk
 unfold Many at hk'
 have hm := rule_mem l i hi
 have hon := (fit.fit _ hm).on
 have hl := loop_inv (R := R) (ε := Int) (b := fun (q : (OpT → List LV → Option R) × (LV × Int × Unit → List LV → Option R)) => G.steps_open.b2 k q.1 q.2) (x := fun j => (l.map Rule.lv,(id + 1,0),ids,(i : Int),l.map Rule.lv,(l.length : Int),ii,(l.getD i .zero).act.outs.map LV.str,((l.getD i .zero).act.outs.length : Int),(j : Int),())) (n := (l.getD i .zero).act.outs.length)
  (Inv := fun j S1 => PlanAt S1 id l (ofTo l i j) .nilsl ∧ Tang S1 ids (outsIn l) (insIn l) (overOuts l) (overIns l) ∧ Keeps S S1 [id])
  (PE := fun _ S1 => Keeps S S1 [id]) (e := fun j => outE l i (outAt l i j))
  (out := fun q o S' => match o with | some e => q.2 (.nilp,e,()) S' | none => q.1 (l.map Rule.lv,(id + 1,0),ids,l.map Rule.lv,(l.length : Int),ii,()) S')
  (fun j S1 hj hI => ?_) (fun q rec S1 hI => ?_) (l.getD i .zero).act.outs.length 0 k S (by omega) (by omega) ⟨hP,hT,Keeps.refl _ _⟩
 ·obtain ⟨S',h1,h2,h3⟩ := hl
  refine ⟨S',h1,fun hn => ?_,h3⟩
  obtain ⟨a,b,c⟩ := h2 hn
  refine ⟨?_,b,c⟩
  have : ofTo l i (l.getD i .zero).act.outs.length = ofN l (i + 1) := by
   funext p
   unfold ofTo
   rw [List.take_length]; rfl
  rw [← this]; exact a
 ·obtain ⟨⟨⟨m,hMap⟩,hPl⟩,hT1,hK⟩ := hI
  have hsz : (outAt l i j).size ≤ 300 := (fit.fit _ hm).os _ (str_mem _ j hj)
  have hthere : (ofTo l i j (outAt l i j)).isSome = outsIn (l.take i) (outAt l i j) := by
   unfold ofTo
   rw [show isIn ((l.getD i .zero).act.outs.take j) (outAt l i j) = false from fit.dist _ hm j hj,cond_false,ofN_some l _ i (by omega)]
  have hb : ∀ (q : (OpT → List LV → Option R) × (LV × Int × Unit → List LV → Option R)) rec,G.steps_open.b2 k q.1 q.2 rec (l.map Rule.lv,(id + 1,0),ids,(i : Int),l.map Rule.lv,(l.length : Int),ii,(l.getD i .zero).act.outs.map LV.str,((l.getD i .zero).act.outs.length : Int),(j : Int),()) S1 =
    cond (outsIn (l.take i) (outAt l i j)) (q.2 (.nilp,7,()) S1) (G.steps_tangle_clashes.fn k (ids,outAt l i j,()) (S1.set id (.mp .str (mapPut m (.str (outAt l i j)) (.int .i64 (i : Int))))) fun r39 S => ifB r39.1 (q.2 (.nilp,12,()) S) (rec (l.map Rule.lv,(id + 1,0),ids,(i : Int),l.map Rule.lv,(l.length : Int),ii,(l.getD i .zero).act.outs.map LV.str,((l.getD i .zero).act.outs.length : Int),((j + 1 : Nat) : Int),()) S)) := fun q rec => by
   unfold G.steps_open.b2
   dsimp only
   rw [lt_nat,ifB_pos hj,idxL_nat (by simpa using hj),map_str_get _ j hj,asLeaf_str,show (l.getD i .zero).act.outs.getD j (bs []) = outAt l i j from rfl,at_of hPl,plan_map,asMap_map,hMap.mp,hMap.get,of_int,of_some,hthere]
   cases outsIn (l.take i) (outAt l i j) with
   | true => rfl
   | false =>
    rw [ifB_false,at_of hPl,plan_map,asMap_map,hMap.mp,setS_of,wrap_succ (by omega)]
    rfl
  have hput := hMap.put (outAt l i j) (.int .i64 (i : Int))
  have hK2 : Keeps S1 (S1.set id (.mp .str (mapPut m (.str (outAt l i j)) (.int .i64 (i : Int))))) [id] := Keeps.set _ _ _
  have hT2 : Tang (S1.set id (.mp .str (mapPut m (.str (outAt l i j)) (.int .i64 (i : Int))))) ids (outsIn l) (insIn l) (overOuts l) (overIns l) :=
   ⟨hT1.o.keeps hK2 (by simp; exact (hid _ (by simp [idL])).1),hT1.i.keeps hK2 (by simp; exact (hid _ (by simp [idL])).1),hT1.oo.keeps hK2 (by simp; exact (hid _ (by simp [idL])).1),hT1.oi.keeps hK2 (by simp; exact (hid _ (by simp [idL])).1)⟩
  obtain ⟨S3,hK3,h3⟩ := prog_clash (R := R) hk l ids _ hT2 (outAt l i j) hsz
  have hcl := fit.clash i hi j hj
  constructor
  ·intro e he
   unfold outE at he
   cases ho : outsIn (l.take i) (outAt l i j) with
   | true =>
    rw [ho] at he
    cases he
    exact ⟨S1,hK,fun q rec => by rw [hb,ho]; rfl⟩
   | false =>
    rw [ho,hcl] at he
    cases hc : clashesS l (outAt l i j) with
    | false => rw [hc] at he; cases he
    | true =>
     rw [hc] at he
     cases he
     exact ⟨S3,hK.trans (hK2.trans (hK3.weak (fun m hm => by simp at hm))),fun q rec => by rw [hb,ho,cond_false,h3,hc]; rfl⟩
  ·intro he
   unfold outE at he
   cases ho : outsIn (l.take i) (outAt l i j) with
   | true => rw [ho] at he; cases he
   | false =>
    rw [ho,hcl] at he
    cases hc : clashesS l (outAt l i j) with
    | true => rw [hc] at he; cases he
    | false =>
     refine ⟨S3,⟨⟨⟨mapPut m (.str (outAt l i j)) (.int .i64 (i : Int)),?_⟩,?_⟩,⟨hT2.o.keeps hK3 (by simp),hT2.i.keeps hK3 (by simp),hT2.oo.keeps hK3 (by simp),hT2.oi.keeps hK3 (by simp)⟩,hK.trans (hK2.trans (hK3.weak (fun m hm => by simp at hm)))⟩,fun q rec => by rw [hb,ho,cond_false,h3,hc]; rfl⟩
     ·have h4 := hput.keeps hK3 (by simp)
      refine ⟨h4.at_,h4.keys,fun p => (h4.get p).trans ?_⟩
      unfold ofTo isIn
      rw [any_take _ _ (bs []) j hj,show (l.getD i .zero).act.outs.getD j (bs []) = outAt l i j from rfl]
      by_cases e : outAt l i j = p
      ·simp [e,ofV]
      ·simp [e]
     ·exact hK3.get (hK2.get hPl (by simp) (by simp)) (by simp) (by simp)
 ·unfold G.steps_open.b2
  dsimp only
  rw [lt_nat,ifB_neg (Nat.lt_irrefl _)]
end
end Go.Lm
set_option maxRecDepth 100000
namespace Go.Lm
section
variable {R : Type}
def RisingB (l : List ByteArray) : Prop := ∀ i j,i < j → j < l.length → strLt (l.getD i (bs [])) (l.getD j (bs [])) = true
theorem risingB_of (l : List ByteArray) (h : ∀ i,0 < i → i < l.length → strLt (l.getD (i - 1) (bs [])) (l.getD i (bs [])) = true) : RisingB l := by
 intro i j hij
 induction j with
 | zero => omega
 | succ j ih =>
  intro hj
  have h1 := h (j + 1) (by omega) hj
  rw [Nat.add_sub_cancel] at h1
  rcases Nat.lt_or_ge i j with h2 | h2
  ·exact strLt_trans (ih h2 (by omega)) h1
  ·have : i = j := by omega
   subst this; exact h1
theorem outS_none {l : List ByteArray} {i : Nat} (h : outS l i = none) : isPathS (l.getD i (bs [])) = true ∧ (0 < i → strLt (l.getD (i - 1) (bs [])) (l.getD i (bs [])) = true) := by
 unfold outS at h
 cases hp : isPathS (l.getD i (bs [])) with
 | false => rw [hp] at h; cases h
 | true =>
  rw [hp] at h
  refine ⟨rfl,fun h0 => ?_⟩
  rw [decide_eq_true h0,Bool.true_and] at h
  cases hb : strLt (l.getD i (bs [])) (l.getD (i - 1) (bs [])) || strEq (l.getD i (bs [])) (l.getD (i - 1) (bs [])) with
  | true => rw [hb] at h; cases h
  | false => exact strLt_total hb
theorem outS_pos (l : List ByteArray) (j : Nat) (r : Int) (h : outS l j = some r) : r ≠ 0 := by
 unfold outS at h
 cases hp : isPathS (l.getD j (bs [])) <;> rw [hp] at h
 ·cases h; decide
 ·generalize (decide (0 < j) && (strLt (l.getD j (bs [])) (l.getD (j - 1) (bs [])) || strEq (l.getD j (bs [])) (l.getD (j - 1) (bs [])))) = b at h
  cases b
  ·cases h
  ·cases h; decide
theorem rising_distinct {l : List ByteArray} (h : RisingB l) (j : Nat) (hj : j < l.length) : isIn (l.take j) (l.getD j (bs [])) = false := by
 cases hb : isIn (l.take j) (l.getD j (bs [])) with
 | false => rfl
 | true =>
  rw [isIn_iff] at hb
  obtain ⟨i,hi,he⟩ := List.mem_iff_getElem.1 hb
  rw [List.length_take] at hi
  have h1 := h i j (by omega) hj
  rw [show l.getD i (bs []) = l.getD j (bs []) by rw [← he,List.getElem_take,List.getD_eq_getElem?_getD,List.getElem?_eq_getElem (by omega : i < l.length)]; rfl,strLt_irrefl] at h1
  cases h1
structure OutsRight (l : List ByteArray) : Prop where
 n : l.length ≤ 100
 path : ∀ p ∈ l,isPathS p = true
 rise : RisingB l
 apart : ∀ p ∈ l,∀ q ∈ l,liesS p q = false
theorem outs_full {l : List ByteArray} (h : outsS l = 0) : OutsRight l := by
 obtain ⟨h1,h2⟩ := outs_right h
 unfold outsS at h
 cases ha : decide (l.length = 0) with
 | true => rw [ha] at h; cases h
 | false =>
  rw [ha,cond_false] at h
  cases hb : decide (l.length > 100) with
  | true => rw [hb] at h; cases h
  | false =>
   rw [hb,cond_false] at h
   obtain ⟨h3,h4⟩ := firstE_zero (outS_pos l) h
   refine ⟨h1,h2,risingB_of l fun i h0 hi => (outS_none (h3 i hi)).2 h0,fun p hp q hq => ?_⟩
   cases hu : l.any (underS l) with
   | true => rw [hu] at h4; cases h4
   | false =>
    cases hl : liesS p q with
    | false => rfl
    | true =>
     have : l.any (underS l) = true := List.any_eq_true.2 ⟨p,hp,List.any_eq_true.2 ⟨q,hq,hl⟩⟩
     rw [this] at hu; cases hu
structure RuleRight (r : Rule) : Prop where
 name : isPathS r.name = true
 act : actS r.act = 0
 outs : OutsRight r.act.outs
 im : r.ins.length ≤ 1000
 ipath : ∀ p ∈ r.ins,isPathS p = true
 irise : RisingB r.ins
theorem rule_right {r : Rule} (h : ruleS r = 0) : RuleRight r := by
 unfold ruleS at h
 cases h1 : isPathS r.name with
 | false => rw [h1] at h; cases h
 | true =>
  rw [h1,cond_true] at h
  cases h2 : actS r.act == 0 with
  | false => rw [h2,cond_false] at h; rw [h] at h2; cases h2
  | true =>
   rw [h2,cond_true] at h
   cases h3 : decide (r.ins.length > 1000) with
   | true => rw [h3] at h; cases h
   | false =>
    rw [h3,cond_false] at h
    obtain ⟨h4,_⟩ := firstE_zero (outS_pos r.ins) h
    have h3 := of_decide_eq_false h3
    exact ⟨h1,eq_of_beq h2,outs_full (act_right (eq_of_beq h2)).outs,by omega,of_get (z := bs []) fun i hi => (outS_none (h4 i hi)).1,risingB_of _ fun i h0 hi => (outS_none (h4 i hi)).2 h0⟩
theorem RuleRight.fit {r : Rule} (h : RuleRight r) : RuleFit r :=
 ⟨h.outs.n,fun p hp => by have := path_len (h.outs.path p hp); omega,h.im,fun p hp => by have := path_len (h.ipath p hp); omega⟩
theorem name_none {l : List Rule} {i : Nat} (h : nameE l i = none) : ruleS (l.getD i .zero) = 0 ∧ (0 < i → strLt (ruleName l (i - 1)) (ruleName l i) = true) := by
 unfold nameE at h
 cases h1 : ruleS (l.getD i .zero) == 0 with
 | false => rw [h1] at h; cases h
 | true =>
  rw [h1,cond_true] at h
  refine ⟨eq_of_beq h1,fun h0 => ?_⟩
  rw [decide_eq_true h0,Bool.true_and] at h
  cases hb : strLt (ruleName l i) (ruleName l (i - 1)) || strEq (ruleName l i) (ruleName l (i - 1)) with
  | true => rw [hb] at h; cases h
  | false => exact strLt_total hb
theorem clash_same {l : List Rule} (hr : ∀ r ∈ l,RuleRight r) (i : Nat) (hi : i < l.length) (p : ByteArray) (hp : p ∈ (l.getD i .zero).act.outs) : refClash l i p = clashesS l p := by
 have hmem : ∀ k,k < l.length → l.getD k .zero ∈ l := fun k hk => rule_mem l k hk
 have hidx : ∀ r ∈ l,∃ k,k < l.length ∧ l.getD k .zero = r := fun r h => by
  obtain ⟨k,hk,e⟩ := List.mem_iff_getElem.1 h
  exact ⟨k,hk,by rw [List.getD_eq_getElem?_getD,List.getElem?_eq_getElem hk]; exact e⟩
 rw [Bool.eq_iff_iff]
 unfold refClash clashesS overIns
 rw [List.any_eq_true,Bool.or_eq_true,List.any_eq_true,List.any_eq_true]
 constructor
 ·rintro ⟨k,hk,h⟩
  rw [List.mem_range] at hk
  unfold clashAt clashOuts clashIns at h
  rw [Bool.or_eq_true,Bool.and_eq_true,List.any_eq_true,List.any_eq_true] at h
  rcases h with ⟨_,q,hq,hl⟩ | ⟨q,hq,hl⟩
  ·refine .inr ⟨q,(mem_above p q).2 hl,?_⟩
   rw [Bool.or_eq_true]
   exact .inl (List.any_eq_true.2 ⟨_,hmem k hk,(isIn_iff _ _).2 hq⟩)
  ·rw [Bool.or_eq_true] at hl
   rcases hl with hl | hl
   ·refine .inr ⟨q,(mem_above p q).2 hl,?_⟩
    rw [Bool.or_eq_true]
    exact .inr (List.any_eq_true.2 ⟨_,hmem k hk,(isIn_iff _ _).2 hq⟩)
   ·exact .inl ⟨_,hmem k hk,by rw [over_lies]; exact List.any_eq_true.2 ⟨q,hq,hl⟩⟩
 ·rintro (⟨r,hrl,h⟩ | ⟨q,hq,h⟩)
  ·obtain ⟨k,hk,e⟩ := hidx r hrl
   rw [over_lies,List.any_eq_true] at h
   obtain ⟨q,hq,hl⟩ := h
   refine ⟨k,List.mem_range.2 hk,?_⟩
   unfold clashAt clashIns
   rw [Bool.or_eq_true,List.any_eq_true]
   exact .inr ⟨q,by rw [e]; exact hq,by rw [hl,Bool.or_true]⟩
  ·have hl := (mem_above p q).1 hq
   rw [Bool.or_eq_true] at h
   unfold outsIn insIn at h
   rw [List.any_eq_true,List.any_eq_true] at h
   rcases h with ⟨r,hrl,h⟩ | ⟨r,hrl,h⟩
   ·obtain ⟨k,hk,e⟩ := hidx r hrl
    rw [isIn_iff] at h
    refine ⟨k,List.mem_range.2 hk,?_⟩
    unfold clashAt clashOuts
    rw [Bool.or_eq_true,Bool.and_eq_true,List.any_eq_true]
    refine .inl ⟨?_,q,by rw [e]; exact h,hl⟩
    cases hki : k == i with
    | false => rfl
    | true =>
     have : k = i := eq_of_beq hki
     subst this
     rw [e] at hp
     rw [(hr r hrl).outs.apart p hp q h] at hl
     cases hl
   ·obtain ⟨k,hk,e⟩ := hidx r hrl
    rw [isIn_iff] at h
    refine ⟨k,List.mem_range.2 hk,?_⟩
    unfold clashAt clashIns
    rw [Bool.or_eq_true,List.any_eq_true]
    exact .inr ⟨q,by rw [e]; exact h,by rw [hl,Bool.true_or]⟩
theorem firstE_none' {step : Nat → Option Int} {n : Nat} (h : firstE step n = none) : ∀ j,j < n → step j = none := fun j hj => firstE_none n 0 h j (Nat.zero_le _) (by omega)
theorem rules_right {l : List Rule} (h : firstE (nameE l) l.length = none) : ∀ r ∈ l,RuleRight r :=
 of_get (z := Rule.zero) fun i hi => rule_right (name_none (firstE_none' h i hi)).1
theorem rules_fit {l : List Rule} (hn : l.length ≤ 500) (hr : ∀ r ∈ l,RuleRight r) : RulesFit l :=
 ⟨hn,fun r h => (hr r h).fit,fun r h j hj => rising_distinct (hr r h).outs.rise j hj,fun i hi j hj => clash_same hr i hi _ (str_mem _ j hj)⟩
theorem op_b1 {k : Nat} (hk : Many k) (l : List Rule) (fit : RulesFit l) (id : Nat) (ids : Ids) (hid : ∀ x ∈ idL ids,x ≠ id ∧ x ≠ id + 1) (S : List LV) (hP : PlanAt S id l (ofN l 0) .nilsl) (hT : Tang S ids (outsIn l) (insIn l) (overOuts l) (overIns l)) :
  ∃ S',(∀ e,allOutE l = some e → Keeps S S' [id]) ∧ (allOutE l = none → PlanAt S' id l (ofN l l.length) .nilsl ∧ Keeps S S' [id]) ∧
   ∀ q : (List LV × (Nat × Nat) × Unit → List LV → Option R) × (LV × Int × Unit → List LV → Option R),rounds (G.steps_open.b1 k q.1 q.2) k (l.map Rule.lv,(id + 1,0),ids,l.map Rule.lv,(l.length : Int),0,()) S =
    (match allOutE l with | some e => q.2 (.nilp,e,()) S' | none => q.1 (l.map Rule.lv,(id + 1,0),()) S') := by
 have hk' := hk
 unfold Many at hk'
 have hn := fit.n
 have hl := loop_inv (R := R) (ε := Int) (b := fun (q : (List LV × (Nat × Nat) × Unit → List LV → Option R) × (LV × Int × Unit → List LV → Option R)) => G.steps_open.b1 k q.1 q.2) (x := fun i => (l.map Rule.lv,(id + 1,0),ids,l.map Rule.lv,(l.length : Int),(i : Int),())) (n := l.length)
  (Inv := fun i S1 => PlanAt S1 id l (ofN l i) .nilsl ∧ Tang S1 ids (outsIn l) (insIn l) (overOuts l) (overIns l) ∧ Keeps S S1 [id])
  (PE := fun _ S1 => Keeps S S1 [id]) (e := ruleOutE l)
  (out := fun q o S' => match o with | some e => q.2 (.nilp,e,()) S' | none => q.1 (l.map Rule.lv,(id + 1,0),()) S')
  (fun i S1 hi hI => ?_) (fun q rec S1 hI => ?_) l.length 0 k S (by omega) (by omega) ⟨hP,hT,Keeps.refl _ _⟩
 ·obtain ⟨S',h1,h2,h3⟩ := hl
  exact ⟨S',h1,fun hn => ⟨(h2 hn).1,(h2 hn).2.2⟩,h3⟩
 ·obtain ⟨hP1,hT1,hK⟩ := hI
  obtain ⟨S2,h1,h2,h3⟩ := op_b2 (R := R) hk l fit id ids hid i hi (i : Int) S1 hP1 hT1
  have hb : ∀ (q : (List LV × (Nat × Nat) × Unit → List LV → Option R) × (LV × Int × Unit → List LV → Option R)) rec,G.steps_open.b1 k q.1 q.2 rec (l.map Rule.lv,(id + 1,0),ids,l.map Rule.lv,(l.length : Int),(i : Int),()) S1 =
    (match ruleOutE l i with | some e => q.2 (.nilp,e,()) S2 | none => rec (l.map Rule.lv,(id + 1,0),ids,l.map Rule.lv,(l.length : Int),((i + 1 : Nat) : Int),()) S2) := fun q rec => by
   unfold G.steps_open.b1
   dsimp only
   rw [lt_nat,ifB_pos hi,idxL_nat (by simpa using hi),rule_get l i hi,Rule.mat,rule_cells,List.length_map]
   refine (h3 (_,_)).trans ?_
   cases ruleOutE l i with
   | some e => rfl
   | none =>
    dsimp only
    rw [wrap_succ (by omega)]
  exact ⟨fun e he => ⟨S2,hK.trans (h1 e he),fun q rec => by rw [hb,he]⟩,fun he => ⟨S2,⟨(h2 he).1,(h2 he).2.1,hK.trans (h2 he).2.2⟩,fun q rec => by rw [hb,he]⟩⟩
 ·unfold G.steps_open.b1
  dsimp only
  rw [lt_nat,ifB_neg (Nat.lt_irrefl _)]
end
end Go.Lm
set_option maxRecDepth 100000
namespace Go.Lm
section
variable {R : Type}
def KeysI (m : List (LV × LV)) (ks : List Nat) : Prop := m.map Prod.fst = ints ks
theorem KeysI.put : ∀ {m : List (LV × LV)} {ks : List Nat} (_ : KeysI m ks) (a : Nat) (v : LV),KeysI (mapPut m (.int .i64 (a : Int)) v) (cond (ks.contains a) ks (ks ++ [a]))
 | [],ks,h,a,v => by
  have : ks = [] := by
   cases ks with
   | nil => rfl
   | cons x ks => cases h
  subst this; rfl
 | (x,y) :: m,[],h,a,v => by cases h
 | (x,y) :: m,k :: ks,h,a,v => by
  unfold KeysI ints at h
  rw [List.map_cons,List.map_cons] at h
  injection h with h1 h2
  have h1 : x = .int .i64 (k : Int) := h1
  subst h1
  have ih := KeysI.put (m := m) (ks := ks) h2 a v
  unfold KeysI at ih ⊢
  simp only [mapPut,keyEq]
  by_cases e : k = a
  ·subst e
   rw [decide_eq_true rfl]
   simp only [List.contains_cons,beq_self_eq_true,Bool.true_or,cond_true]
   rw [List.map_cons]
   unfold ints
   rw [List.map_cons,h2]
  ·rw [decide_eq_false (by omega)]
   simp only [List.contains_cons,show (a == k) = false by simp; omega,Bool.false_or]
   rw [List.map_cons,ih]
   cases ks.contains a <;> rfl
structure IsSetI (S : List LV) (id n : Nat) (P : Nat → Bool) : Prop where
 ex : ∃ m ks,S.getD id .any = .mp (.int .i64) m ∧ KeysI m ks ∧ ks.Nodup ∧ ∀ k,k ∈ ks ↔ k < n ∧ P k = true
theorem IsSetI.keeps {S S' : List LV} {id n : Nat} {P : Nat → Bool} {M : List Nat} (h : IsSetI S id n P) (hk : Keeps S S' M) (hm : id ∉ M) : IsSetI S' id n P := by
 obtain ⟨m,ks,h1,h2⟩ := h.ex
 exact ⟨m,ks,hk.get h1 (by simp) hm,h2⟩
theorem IsSetI.put {S : List LV} {id n : Nat} {P : Nat → Bool} (h : IsSetI S id n P) (a : Nat) (ha : a < n) : ∃ S',IsSetI S' id n (fun k => P k || decide (a = k)) ∧ Keeps S S' [id] ∧
  ∀ K : List LV → Option R,(mpAt S id (.int .i64) fun m => setS (S.set id (.mp (.int .i64) (mapPut m (.int .i64 (a : Int)) (.bool true)))) K) = K S' := by
 obtain ⟨m,ks,h1,h2,h3,h4⟩ := h.ex
 refine ⟨_,⟨mapPut m (.int .i64 (a : Int)) (.bool true),cond (ks.contains a) ks (ks ++ [a]),get_set (lt_get h1 (by simp)),h2.put a _,?_,fun k => ?_⟩,Keeps.set S id (.mp (.int .i64) (mapPut m (.int .i64 (a : Int)) (.bool true))),fun K => ?_⟩
 ·cases hc : ks.contains a with
  | true => exact h3
  | false =>
   have hn : a ∉ ks := by simpa using hc
   show (ks ++ [a]).Nodup
   rw [List.nodup_append]
   refine ⟨h3,by simp,fun x hx y hy => ?_⟩
   simp at hy
   subst hy
   exact fun e => hn (e ▸ hx)
 ·rw [Bool.or_eq_true,decide_eq_true_iff]
  cases hc : ks.contains a with
  | true =>
   have hin : a ∈ ks := by simpa using hc
   show k ∈ ks ↔ _
   rw [h4]
   constructor
   ·exact fun h => ⟨h.1,.inl h.2⟩
   ·rintro ⟨h5,h6 | h6⟩
    ·exact ⟨h5,h6⟩
    ·subst h6; exact (h4 _).1 hin
  | false =>
   show k ∈ ks ++ [a] ↔ _
   rw [List.mem_append,h4]
   constructor
   ·rintro (h5 | h5)
    ·exact ⟨h5.1,.inl h5.2⟩
    ·simp at h5; subst h5; exact ⟨ha,.inr rfl⟩
   ·rintro ⟨h5,h6 | h6⟩
    ·exact .inl ⟨h5,h6⟩
    ·exact .inr (by simp [h6])
 ·unfold mpAt
  rw [h1]; rfl
theorem IsSetI.congr {S : List LV} {id n : Nat} {P P' : Nat → Bool} (h : IsSetI S id n P) (hp : ∀ p,P p = P' p) : IsSetI S id n P' := by
 have : P = P' := funext hp
 rw [← this]; exact h
def natZ (l : List Nat) : List Int := l.map fun (k : Nat) => (k : Int)
theorem IsSetI.sorted {S : List LV} {id n : Nat} {P : Nat → Bool} (h : IsSetI S id n P) (hn : n ≤ 500) : ∃ m,S.getD id .any = .mp (.int .i64) m ∧ H.keyIok m = true ∧ sortI m = natZ ((List.range n).filter P) := by
 obtain ⟨m,ks,h1,h2,h3,h4⟩ := h.ex
 have hp : ks.Perm ((List.range n).filter P) := (List.perm_ext_iff_of_nodup h3 (List.nodup_range.sublist List.filter_sublist)).2 fun k => by
  rw [h4,List.mem_filter,List.mem_range]
 have hk : m.map (fun kv => keyI kv.1) = natZ ks := by
  have : m.map (fun kv => keyI kv.1) = (m.map Prod.fst).map keyI := by rw [List.map_map]; rfl
  rw [this,h2]
  unfold ints natZ
  rw [List.map_map]; rfl
 have hlen : m.length = ks.length := by have := congrArg List.length h2; simpa [ints] using this
 have hl : ks.length ≤ n := by
  rw [hp.length_eq]
  have := List.length_filter_le P (List.range n)
  rwa [List.length_range] at this
 refine ⟨m,h1,?_,?_⟩
 ·unfold H.keyIok
  rw [Bool.and_eq_true,decide_eq_true_iff,List.all_eq_true]
  refine ⟨by omega,fun kv hkv => decide_eq_true ?_⟩
  have : keyI kv.1 ∈ natZ ks := by rw [← hk]; exact List.mem_map.2 ⟨kv,hkv,rfl⟩
  obtain ⟨k,hks,e⟩ := List.mem_map.1 this
  have := ((h4 k).1 hks).1
  rw [← e]
  constructor <;> omega
 ·unfold sortI
  rw [hk,sort_perm (r := fun (a b : Int) => a ≤ b) (fun a b c h1 h2 => Int.le_trans h1 h2) (fun a b => Int.le_total a b) (fun a b h1 h2 => Int.le_antisymm h1 h2) (l := natZ ks) (l' := natZ ((List.range n).filter P)) (hp.map _)]
  refine List.mergeSort_of_pairwise ?_
  show List.Pairwise (fun a b => decide (a ≤ b) = true) (List.map (fun (k : Nat) => (k : Int)) ((List.range n).filter P))
  rw [List.pairwise_map]
  refine (List.pairwise_lt_range.filter P).imp fun {a b} h => ?_
  simp; omega
theorem ofN_lt (l : List Rule) (p : ByteArray) : ∀ i k,ofN l i p = some k → k < i
 | 0,_,h => by cases h
 | i + 1,k,h => by
  have h : cond (isIn (l.getD i .zero).act.outs p) (some i) (ofN l i p) = some k := h
  cases hb : isIn (l.getD i .zero).act.outs p with
  | true => rw [hb] at h; cases h; omega
  | false => rw [hb] at h; have := ofN_lt l p i k h; omega
def usesP (l : List Rule) (q : List ByteArray) (k : Nat) : Bool := q.any fun p => decide (ofN l l.length p = some k)
theorem op_b4 {k : Nat} (hk : Many k) (l : List Rule) (hn : l.length ≤ 500) (id mid : Nat) (hid : mid ≠ id ∧ mid ≠ id + 1) (deps : LV) (q : List ByteArray) (hq : q.length ≤ 1000) (ls : List LV) (n i : Int) (S : List LV) (hP : PlanAt S id l (ofN l l.length) deps) (hM : IsSetI S mid l.length (fun _ => false)) :
  ∃ S',(PlanAt S' id l (ofN l l.length) deps ∧ IsSetI S' mid l.length (usesP l q) ∧ Keeps S S' [mid]) ∧
   ∀ J : (Nat × Nat) × Nat × List LV × Int × Int × Unit → List LV → Option R,rounds (G.steps_open.b4 k J) k ((id + 1,0),mid,ls,n,i,q.map .str,(q.length : Int),0,()) S = J ((id + 1,0),mid,ls,n,i,()) S' := by
 have hk' := hk
 unfold Many at hk'
 have hl := loop_all (R := R) (b := fun J => G.steps_open.b4 k J) (x := fun t => ((id + 1,0),mid,ls,n,i,q.map LV.str,(q.length : Int),(t : Int),())) (n := q.length)
  (Inv := fun t S1 => PlanAt S1 id l (ofN l l.length) deps ∧ IsSetI S1 mid l.length (usesP l (q.take t)) ∧ Keeps S S1 [mid])
  (out := fun (J : (Nat × Nat) × Nat × List LV × Int × Int × Unit → List LV → Option R) S' => J ((id + 1,0),mid,ls,n,i,()) S')
  (fun t S1 ht hI => ?_) (fun J rec S1 hI => ?_) k (by omega) S ⟨hP,hM.congr (fun p => by simp [usesP]),Keeps.refl _ _⟩
 ·obtain ⟨S',⟨h1,h2,h3⟩,h4⟩ := hl
  rw [List.take_length] at h2
  exact ⟨S',⟨h1,h2,h3⟩,h4⟩
 ·obtain ⟨hP1,hM1,hK⟩ := hI
  obtain ⟨⟨m,hMap⟩,hPl⟩ := hP1
  have hb : ∀ (J : (Nat × Nat) × Nat × List LV × Int × Int × Unit → List LV → Option R) rec,G.steps_open.b4 k J rec ((id + 1,0),mid,ls,n,i,q.map LV.str,(q.length : Int),(t : Int),()) S1 =
    ifB (ofN l l.length (q.getD t (bs []))).isSome (mpAt S1 mid (.int .i64) fun m => setS (S1.set mid (.mp (.int .i64) (mapPut m (.int .i64 (((ofN l l.length (q.getD t (bs []))).getD 0 : Nat) : Int)) (.bool true)))) fun S => rec ((id + 1,0),mid,ls,n,i,q.map LV.str,(q.length : Int),((t + 1 : Nat) : Int),()) S) (rec ((id + 1,0),mid,ls,n,i,q.map LV.str,(q.length : Int),((t + 1 : Nat) : Int),()) S1) := fun J rec => by
   unfold G.steps_open.b4
   dsimp only
   rw [lt_nat,ifB_pos ht,idxL_nat (by simpa using ht),map_str_get _ t ht,asLeaf_str,at_of hPl,plan_map,asMap_map,hMap.mp,hMap.get,of_int,of_some,wrap_succ (by omega)]
  cases ho : ofN l l.length (q.getD t (bs [])) with
  | none =>
   refine ⟨S1,⟨⟨⟨m,hMap⟩,hPl⟩,hM1.congr fun p => ?_,hK⟩,fun J rec => by rw [hb,ho]; rfl⟩
   unfold usesP
   rw [any_take _ q (bs []) t ht,ho]
   simp
  | some a =>
   have ha := ofN_lt l _ _ _ ho
   obtain ⟨S2,h1,h2,h3⟩ := hM1.put (R := R) a ha
   refine ⟨S2,⟨⟨⟨m,hMap.keeps h2 (by simp; exact Ne.symm hid.1)⟩,h2.get hPl (by simp) (by simp; exact Ne.symm hid.2)⟩,h1.congr fun p => ?_,hK.trans h2⟩,fun J rec => ?_⟩
   ·unfold usesP
    rw [any_take _ q (bs []) t ht,ho]
    simp
   ·rw [hb,ho]
    exact h3 _
 ·unfold G.steps_open.b4
  dsimp only
  rw [lt_nat,ifB_neg (Nat.lt_irrefl _)]
end
end Go.Lm
set_option maxRecDepth 100000
namespace Go.Lm
section
variable {R : Type}
def rowS (r : List Nat) : LV := .sl 1 (ints r)
def depsV (rows : List (List Nat)) : LV := match rows with
 | [] => .nilsl
 | rows => .own 45 1 (rows.map rowS)
theorem depsV_own (rows : List (List Nat)) (K : List LV → Option R) : asOwn 45 1 (depsV rows) K = K (rows.map rowS) := by
 cases rows <;> rfl
theorem depsV_snoc (rows : List (List Nat)) (r : List Nat) : LV.own 45 1 ((rows ++ [r]).map rowS) = depsV (rows ++ [r]) := by
 cases rows <;> rfl
def depsOf (l : List Rule) (i : Nat) : List Nat := (List.range l.length).filter (usesP l (l.getD i .zero).ins)
def depsTo (l : List Rule) (t : Nat) : List (List Nat) := (List.range t).map (depsOf l)
theorem depsTo_succ (l : List Rule) (t : Nat) : depsTo l (t + 1) = depsTo l t ++ [depsOf l t] := by
 unfold depsTo
 rw [List.range_succ,List.map_append]; rfl
theorem depsTo_len (l : List Rule) (t : Nat) : (depsTo l t).length = t := by simp [depsTo]
theorem set_get (S : List LV) (h : Nat) (T : List LV) (hh : h < S.length) : (S.set h .any ++ T).set h (S.getD h .any) = S ++ T := by
 rw [List.set_append_left _ _ (by simpa using hh),List.set_set]
 congr 1
 apply List.ext_getElem?
 intro j
 rw [List.getElem?_set]
 by_cases e : h = j
 ·subst e
  simp [hh,List.getD_eq_getElem?_getD]
 ·simp [e]
theorem hidR_set (S : List LV) (h : Nat) (T : List LV) (hh : h < S.length) (K : List LV → Option R) : hidR h (S.getD h .any) (S.set h .any ++ T) K = K (S ++ T) := by
 unfold hidR
 rw [show Nat.blt h (S.set h .any ++ T).length = true from Nat.ble_eq_true_of_le (by simp; omega),ifB_true,set_get S h T hh]
theorem hidR_set0 (S : List LV) (h : Nat) (hh : h < S.length) (K : List LV → Option R) : hidR h (S.getD h .any) (S.set h .any) K = K S := by
 have := hidR_set S h [] hh K
 rwa [List.append_nil,List.append_nil] at this
theorem op_b3 {k : Nat} (hk : Many k) (l : List Rule) (fit : RulesFit l) (id : Nat) (S : List LV) (hP : PlanAt S id l (ofN l l.length) .nilsl) :
  ∃ S',(PlanAt S' id l (ofN l l.length) (depsV (depsTo l l.length)) ∧ Keeps S S' [id + 1]) ∧
   ∀ J : (Nat × Nat) × Unit → List LV → Option R,rounds (G.steps_open.b3 k J) k ((id + 1,0),l.map Rule.lv,(l.length : Int),0,()) S = J ((id + 1,0),()) S' := by
 have hk' := hk
 unfold Many at hk'
 have hn := fit.n
 refine loop_all (R := R) (b := fun J => G.steps_open.b3 k J) (x := fun t => ((id + 1,0),l.map Rule.lv,(l.length : Int),(t : Int),())) (n := l.length)
  (Inv := fun t S1 => PlanAt S1 id l (ofN l l.length) (depsV (depsTo l t)) ∧ Keeps S S1 [id + 1])
  (out := fun (J : (Nat × Nat) × Unit → List LV → Option R) S' => J ((id + 1,0),()) S')
  (fun t S1 ht hI => ?_) (fun J rec S1 hI => ?_) k (by omega) S ⟨hP,Keeps.refl _ _⟩
 ·obtain ⟨hP1,hK⟩ := hI
  have hid1 : id + 1 < S1.length := lt_get hP1.plan (by simp)
  have hid0 : id < S1.length := by omega
  have hK2 : Keeps S1 (S1 ++ [.mp (.int .i64) []]) [] := Keeps.app _ _ _
  have hM0 : IsSetI (S1 ++ [.mp (.int .i64) []]) S1.length l.length (fun _ => false) := ⟨[],[],get_end _ _,rfl,List.nodup_nil,fun k => by simp⟩
  obtain ⟨S3,⟨hP3,hM3,hK3⟩,h3⟩ := op_b4 (R := R) hk l hn id S1.length ⟨by omega,by omega⟩ _ (l.getD t .zero).ins (fit.fit _ (rule_mem l t ht)).im (l.map Rule.lv) (l.length : Int) (t : Int) _ (hP1.keeps hK2 (by simp) (by simp)) hM0
  have hl3 : S1.length + 1 ≤ S3.length := by have := hK3.1; simp at this; omega
  let rows := (depsTo l t).map rowS
  let S4 := S3.set (id + 1) (.obj 66 [.sl 8 (l.map Rule.lv),.map id,.sl 1 rows])
  have hl4 : S4.length = S3.length := by simp [S4]
  let S5 := S4 ++ [.obj 94 [.map S1.length]]
  let rows2 := (depsTo l (t + 1)).map rowS
  let S6 := S5.set (id + 1) (.obj 66 [.sl 8 (l.map Rule.lv),.map id,.own 45 1 rows2])
  have hp4 : S4.getD (id + 1) .any = .obj 66 [.sl 8 (l.map Rule.lv),.map id,.sl 1 rows] := get_set (by omega)
  have hp5 : S5.getD (id + 1) .any = .obj 66 [.sl 8 (l.map Rule.lv),.map id,.sl 1 rows] := get_app _ hp4 (by simp)
  have hK34 : Keeps S3 S4 [id + 1] := Keeps.set _ _ _
  have hK45 : Keeps S4 S5 [] := Keeps.app _ _ _
  have hK56 : Keeps S5 S6 [id + 1] := Keeps.set _ _ _
  have hK36 : Keeps S3 S6 [id + 1] := hK34.trans ((hK45.weak (fun m hm => by simp at hm)).trans hK56)
  obtain ⟨m,hm1,hm2,hm3⟩ := hM3.sorted hn
  have hm5 : (S5.set (id + 1) .any).getD S1.length .any = .mp (.int .i64) m := by
   rw [other_set (by omega)]
   exact hK45.get (hK34.get hm1 (by simp) (by simp; omega)) (by simp) (by simp)
  have ho5 : (S5.set (id + 1) .any).getD S4.length .any = .obj 94 [.map S1.length] := by
   rw [other_set (by omega)]
   exact get_end _ _
  refine ⟨S6,⟨?_,hK.trans (((hK2.weak (fun m hm => by simp at hm)).trans (hK3.weak ?_ : Keeps _ _ [S1.length,id + 1])).trans (hK36.weak (fun m hm => .inl (by simp at hm; simp [hm]))) |>.weak ?_)⟩,fun J rec => ?_⟩
  ·obtain ⟨⟨m0,hm0⟩,_⟩ := hP3
   refine ⟨⟨m0,hm0.keeps hK36 (by simp)⟩,?_⟩
   rw [show S6.getD (id + 1) .any = _ from get_set (by simp [S5]; omega)]
   show LV.obj 66 [_,_,.own 45 1 ((depsTo l (t + 1)).map rowS)] = _
   rw [depsTo_succ,depsV_snoc]
  ·intro m hm; left; simp at hm; simp [hm]
  ·intro m hm
   simp at hm
   rcases hm with rfl | rfl
   ·right; exact Nat.le_refl _
   ·left; simp
  ·unfold G.steps_open.b3
   dsimp only
   rw [lt_nat,ifB_pos ht,idxL_nat (by simpa using ht),rule_get l t ht,Rule.mat,rule_cells]
   unfold newObj
   rw [List.length_map]
   refine (h3 _).trans ?_
   dsimp only
   rw [Nat.beq_refl,ifB_true,at_of hP3.plan]
   have e : ∀ K : List LV → Option R,asOwn 45 1 (([LV.sl 8 (l.map Rule.lv),.map id,depsV (depsTo l t)] : List LV).getD (0 + 2) .any) K = K rows := fun K => depsV_own _ K
   rw [e,setS_of]
   unfold G.maps_Keys_map_int_bool_int_bool.fn newObj
   dsimp only
   rw [show S3.set (id + 1) (LV.obj 66 (([LV.sl 8 (l.map Rule.lv),.map id,depsV (depsTo l t)] : List LV).set (0 + 2) (.sl 1 rows))) = S4 from rfl]
   rw [hidR_set S4 (id + 1) _ (by omega),List.length_set]
   unfold H.SortedI.fn sortedIF
   dsimp only
   rw [show S4 ++ [LV.obj 94 [.map S1.length]] = S5 from rfl,ho5]
   dsimp only
   rw [hm5]
   dsimp only
   rw [Nat.beq_refl,hm2]
   rw [show (true && true) = true from rfl]
   dsimp only
   rw [hidR_set0 S5 (id + 1) (by simp [S5]; omega),hm3]
   have e3 : (natZ ((List.range l.length).filter (usesP l (l.getD t .zero).ins))).map (fun n => LV.int .i64 n) = ints (depsOf l t) := by
    unfold natZ ints depsOf
    rw [List.map_map]; rfl
   rw [e3,app_one (by simp [rows,depsTo_len]; omega) (by simp [rows,depsTo_len]; omega),at_of hp5]
   have e4 : rows ++ [LV.sl 1 (ints (depsOf l t))] = rows2 := by
    show (depsTo l t).map rowS ++ [rowS (depsOf l t)] = (depsTo l (t + 1)).map rowS
    rw [depsTo_succ,List.map_append]; rfl
   have e5 : ∀ (v : LV) (K : List LV → Option R),stO [LV.sl 8 (l.map Rule.lv),.map id,.sl 1 rows] (0 + 2) [v] K = K [.sl 8 (l.map Rule.lv),.map id,v] := fun v K => rfl
   rw [e4,e5,setS_of,wrap_succ (by omega)]
 ·unfold G.steps_open.b3
  dsimp only
  rw [lt_nat,ifB_neg (Nat.lt_irrefl _)]
end
end Go.Lm
set_option maxRecDepth 100000
namespace Go.Lm
section
variable {R : Type}
def IntsObj (S : List LV) (id n : Nat) (g : Nat → Int) : Prop := S.getD id .any = .obj 3 ((List.range n).map fun i => LV.int .i64 (g i))
def intsO (n : Nat) (g : Nat → Int) : LV := .obj 3 ((List.range n).map fun i => LV.int .i64 (g i))
def rowsO (n : Nat) (f : Nat → List Nat) : LV := .obj 45 ((List.range n).map fun i => rowR (f i))
def updF {α : Type} (g : Nat → α) (i : Nat) (v : α) (j : Nat) : α := cond (j == i) v (g j)
theorem range_get {n i : Nat} (h : i < n) (g : Nat → LV) : ((List.range n).map g).getD i .any = g i := by simp [List.getD_eq_getElem?_getD,h]
theorem range_len (n : Nat) (g : Nat → LV) : ((List.range n).map g).length = n := by simp
theorem IntsObj.ld {S : List LV} {id n : Nat} {g : Nat → Int} (h : IntsObj S id n g) {i : Nat} (hi : i < n) (K : Int → Option R) : (objAt S id fun _ c => ldInt .i64 c (0 + i * 1) K) = K (g i) := by
 rw [at_of h]
 unfold ldInt
 rw [Nat.zero_add,Nat.mul_one,range_len,show Nat.blt i n = true from Nat.ble_eq_true_of_le hi,ifB_true,range_get hi]
 exact asInt_int _ _ _
theorem IntsObj.st {S : List LV} {id n : Nat} {g : Nat → Int} (h : IntsObj S id n g) {i : Nat} (hi : i < n) (v : Int) (K : List LV → Option R) :
  (objAt S id fun ty c => stO c (0 + i * 1) [.int .i64 v] fun c' => setS (S.set id (ty c')) K) = K (S.set id (intsO n (updF g i v))) := by
 rw [at_of h]
 unfold stO
 rw [Nat.zero_add,Nat.mul_one,show Nat.ble (i + ([LV.int .i64 v] : List LV).length) ((List.range n).map fun i => LV.int .i64 (g i)).length = true from Nat.ble_eq_true_of_le (by simp; omega),ifB_true]
 dsimp only
 rw [setFrom_one _ _ _ (by simp; omega),set_range,setS_of]
 congr 3
 congr 1
 funext j
 unfold updF
 cases j == i <;> rfl
theorem IntsObj.of (S : List LV) (id n : Nat) (g : Nat → Int) (h : id < S.length) : IntsObj (S.set id (intsO n g)) id n g := get_set h
theorem RowsObj.of (S : List LV) (id n : Nat) (f : Nat → List Nat) (h : id < S.length) : RowsObj (S.set id (rowsO n f)) id n f := get_set h
theorem RowsObj.app {S : List LV} {id n : Nat} {f : Nat → List Nat} (h : RowsObj S id n f) {i : Nat} (hi : i < n) (a : Nat) (hl : (f i).length ≤ 500) (K : List LV → Option R) :
  (idxN n (i : Int) fun v => objAt S id fun ty c => asOwn 3 1 (c.getD (0 + v * 1) .any) fun l => setS (S.set id (ty (c.set (0 + v * 1) (.sl 1 l)))) fun S => app 8 l [.int .i64 (a : Int)] fun l2 => idxN n (i : Int) fun w => objAt S id fun ty c2 => stO c2 (0 + w * 1) [.own 3 1 l2] fun c3 => setS (S.set id (ty c3)) K) =
   K (S.set id (rowsO n (updF f i (f i ++ [a])))) := by
 rw [idxN_nat hi,at_of h,Nat.zero_add,Nat.mul_one,range_get hi,rowR_own,setS_of,app_one (by rw [ints_len]; omega) (by rw [ints_len]; omega),ints_snoc,idxN_nat hi,at_of (has_set h _)]
 unfold stO
 rw [Nat.zero_add,Nat.mul_one,show Nat.ble (i + ([LV.own 3 1 (ints (f i ++ [a]))] : List LV).length) (((List.range n).map fun j => rowR (f j)).set i (.sl 1 (ints (f i)))).length = true from Nat.ble_eq_true_of_le (by simp; omega),ifB_true]
 dsimp only
 rw [setS_of,setFrom_one _ _ _ (by simp; omega),List.set_set,List.set_set,set_range]
 congr 3
 congr 1
 funext j
 unfold updF
 cases j == i with
 | true => exact rowR_snoc _ _
 | false => rfl
theorem RowsObj.ld {S : List LV} {id n : Nat} {f : Nat → List Nat} (h : RowsObj S id n f) {i : Nat} (hi : i < n) (K : List LV → Option R) : (objAt S id fun _ c => ldSl 1 c (0 + i * 1) K) = K (ints (f i)) := by
 rw [at_of h]
 unfold ldSl
 rw [Nat.zero_add,Nat.mul_one,range_len,show Nat.blt i n = true from Nat.ble_eq_true_of_le hi,ifB_true,range_get hi]
 cases f i with
 | nil => rfl
 | cons a l => exact asSl_sl 1 _ K
def usersTo (D : List (List Nat)) (inn : List Bool) (t k : Nat) : List Nat := (List.range t).filter fun i => inn.getD i false && (D.getD i []).contains k
def usersIn (D : List (List Nat)) (inn : List Bool) (i j k : Nat) : List Nat := usersTo D inn i k ++ cond (((D.getD i []).take j).contains k) [i] []
def leftTo (D : List (List Nat)) (inn : List Bool) (t i : Nat) : Int := cond (decide (i < t) && inn.getD i false) (((D.getD i []).length : Nat) : Int) 0
theorem usersTo_len (D : List (List Nat)) (inn : List Bool) (t k : Nat) : (usersTo D inn t k).length ≤ t := by
 have := List.length_filter_le (fun i => inn.getD i false && (D.getD i []).contains k) (List.range t)
 rw [List.length_range] at this
 exact this
theorem usersTo_succ (D : List (List Nat)) (inn : List Bool) (t k : Nat) : usersTo D inn (t + 1) k = usersTo D inn t k ++ cond (inn.getD t false && (D.getD t []).contains k) [t] [] := by
 unfold usersTo
 rw [List.range_succ,List.filter_append,List.filter_cons]
 cases (inn.getD t false && (D.getD t []).contains k) <;> simp
structure Rows (D : List (List Nat)) : Prop where
 small : Small D
 nodup : ∀ r ∈ D,r.Nodup
theorem Rows.get {D : List (List Nat)} (h : Rows D) (i : Nat) (hi : i < D.length) : (D.getD i []).Nodup :=
 h.nodup _ (by rw [List.getD_eq_getElem?_getD,List.getElem?_eq_getElem hi]; exact List.getElem_mem hi)
theorem take_contains (r : List Nat) (j : Nat) (hj : j < r.length) (k : Nat) : (r.take (j + 1)).contains k = ((r.take j).contains k || (k == r.getD j 0)) := by
 rw [List.take_add_one,List.getElem?_eq_getElem hj,List.getD_eq_getElem?_getD,List.getElem?_eq_getElem hj]
 simp only [Option.toList_some,Option.getD_some]
 rw [Bool.eq_iff_iff,List.contains_iff_mem,List.mem_append,Bool.or_eq_true,List.contains_iff_mem,beq_iff_eq,List.mem_singleton]
theorem nat_mem (l : List Nat) (j : Nat) (h : j < l.length) : l.getD j 0 ∈ l := by
 rw [List.getD_eq_getElem?_getD,List.getElem?_eq_getElem h]; exact List.getElem_mem h
theorem nodup_take {r : List Nat} (h : r.Nodup) (j : Nat) (hj : j < r.length) : (r.take j).contains (r.getD j 0) = false := by
 cases hb : (r.take j).contains (r.getD j 0) with
 | false => rfl
 | true =>
  have hm : r.getD j 0 ∈ r.take j := by simpa using hb
  obtain ⟨i,hi,he⟩ := List.mem_iff_getElem.1 hm
  rw [List.length_take] at hi
  rw [List.getElem_take,List.getD_eq_getElem?_getD,List.getElem?_eq_getElem hj,Option.getD_some] at he
  have := (List.getElem_inj (xs := r) (h₀ := by omega) (h₁ := hj) h).1 he
  omega
abbrev OnT := (Nat × Nat) × Unit × (Nat × Nat × Nat) × (Nat × Nat × Nat) × Int × LL × Int × Int × Unit
theorem on_b1 {k : Nat} (hk : Many k) (D : List (List Nat)) (hD : Rows D) (inn : List Bool) (pl : Nat × Nat) (li : Nat × Nat × Nat) (ui i : Nat) (hi : i < D.length) (many : Int) (rows : LL) (n ii : Int) (S : List LV) (hS : RowsObj S ui D.length (usersTo D inn i)) :
  ∃ S',(RowsObj S' ui D.length (fun k => usersIn D inn i (D.getD i []).length k) ∧ Keeps S S' [ui]) ∧
   ∀ J : OnT → List LV → Option R,rounds (G.steps_plan_order_nils.b1 k J) k (pl,(),li,(ui,0,D.length),many,(i : Int),rows,n,ii,ints (D.getD i []),((D.getD i []).length : Int),0,()) S = J (pl,(),li,(ui,0,D.length),many,rows,n,ii,()) S' := by
 have hk' := hk
 unfold Many at hk'
 have hsm := hD.small.get i hi
 refine loop_all (R := R) (b := fun J => G.steps_plan_order_nils.b1 k J) (x := fun t => (pl,(),li,(ui,0,D.length),many,(i : Int),rows,n,ii,ints (D.getD i []),((D.getD i []).length : Int),(t : Int),())) (n := (D.getD i []).length)
  (Inv := fun t S1 => RowsObj S1 ui D.length (fun k => usersIn D inn i t k) ∧ Keeps S S1 [ui])
  (out := fun (J : OnT → List LV → Option R) S' => J (pl,(),li,(ui,0,D.length),many,rows,n,ii,()) S')
  (fun t S1 ht hI => ?_) (fun J rec S1 hI => ?_) k (by omega) S ⟨?_,Keeps.refl _ _⟩
 ·obtain ⟨h1,h2⟩ := hI
  have hkl : (D.getD i []).getD t 0 < D.length := hsm.2 _ (nat_mem _ t ht)
  have hlen : (usersIn D inn i t ((D.getD i []).getD t 0)).length ≤ 500 := by
   have := usersTo_len D inn i ((D.getD i []).getD t 0)
   have h500 := hD.small.1
   unfold usersIn
   rw [List.length_append]
   have h1 : ∀ b : Bool,(cond b [i] []).length ≤ 1 := fun b => by cases b <;> simp
   have h1 := h1 (((D.getD i []).take t).contains ((D.getD i []).getD t 0))
   omega
  refine ⟨S1.set ui (rowsO D.length (updF (fun k => usersIn D inn i t k) ((D.getD i []).getD t 0) (usersIn D inn i t ((D.getD i []).getD t 0) ++ [i]))),⟨?_,h2.trans (Keeps.set _ _ _)⟩,fun J rec => ?_⟩
  ·have e : (updF (fun k => usersIn D inn i t k) ((D.getD i []).getD t 0) (usersIn D inn i t ((D.getD i []).getD t 0) ++ [i])) = fun k => usersIn D inn i (t + 1) k := by
    funext k
    unfold updF usersIn
    rw [take_contains _ t ht]
    by_cases e : k = (D.getD i []).getD t 0
    ·subst e
     rw [nodup_take (hD.get i hi) t ht]; simp
    ·have e0 : (k == (D.getD i []).getD t 0) = false := by simpa using e
     rw [e0,Bool.or_false]; rfl
   show RowsObj _ _ _ (fun k => usersIn D inn i (t + 1) k)
   rw [← e]
   exact RowsObj.of _ _ _ _ (lt_get h1 (by simp))
  ·unfold G.steps_plan_order_nils.b1 G.steps_plan_order_nils.q4 G.steps_plan_order_nils.q5 G.steps_plan_order_nils.q6
   dsimp only
   rw [lt_nat,ifB_pos ht,idxL_nat (by rw [ints_len]; exact ht),ints_get _ t ht,leaf_int]
   refine (RowsObj.app h1 hkl i hlen _).trans ?_
   rw [wrap_succ (by omega)]
 ·unfold G.steps_plan_order_nils.b1 G.steps_plan_order_nils.q4
  dsimp only
  rw [lt_nat,ifB_neg (Nat.lt_irrefl _)]
 ·have e : (fun k => usersIn D inn i 0 k) = usersTo D inn i := by
   funext k
   unfold usersIn
   simp
  rw [e]; exact hS
end
end Go.Lm
set_option maxRecDepth 100000
namespace Go.Lm
section
variable {R : Type}
theorem row_at (D : List (List Nat)) (i : Nat) (hi : i < D.length) (K : List LV → Option R) : (idxL (D.map rowS) (i : Int) fun v => asSl 1 (leaf v 0) K) = K (ints (D.getD i [])) := by
 rw [idxL_nat (by simpa using hi)]
 have e : (D.map rowS).getD i .any = rowS (D.getD i []) := by simp [List.getD_eq_getElem?_getD,hi]
 rw [e]
 exact asSl_sl 1 _ K
def countTo (inn : List Bool) (t : Nat) : Nat := ((List.range t).filter fun i => inn.getD i false).length
theorem countTo_succ (inn : List Bool) (t : Nat) : countTo inn (t + 1) = countTo inn t + cond (inn.getD t false) 1 0 := by
 unfold countTo
 rw [List.range_succ,List.filter_append,List.length_append,List.filter_cons]
 cases inn.getD t false <;> simp
theorem countTo_le (inn : List Bool) (t : Nat) : countTo inn t ≤ t := by
 have := List.length_filter_le (fun i => inn.getD i false) (List.range t)
 rw [List.length_range] at this
 exact this
theorem left_upd (D : List (List Nat)) (inn : List Bool) (t : Nat) (h : inn.getD t false = true) : updF (leftTo D inn t) t (((D.getD t []).length : Nat) : Int) = leftTo D inn (t + 1) := by
 funext j
 unfold updF leftTo
 by_cases e : j = t
 ·subst e
  rw [beq_self_eq_true,cond_true,decide_eq_true (by omega : j < j + 1),h]; rfl
 ·rw [show (j == t) = false by simpa using e,cond_false]
  by_cases h1 : j < t
  ·rw [decide_eq_true h1,decide_eq_true (by omega : j < t + 1)]
  ·rw [decide_eq_false h1,decide_eq_false (by omega : ¬ j < t + 1)]
theorem users_full (D : List (List Nat)) (inn : List Bool) (t : Nat) (h : inn.getD t false = true) : (fun k => usersIn D inn t (D.getD t []).length k) = usersTo D inn (t + 1) := by
 funext k
 unfold usersIn
 rw [usersTo_succ,List.take_length,h,Bool.true_and]
theorem allTrue (n i : Nat) (h : i < n) : (List.replicate n true).getD i false = true := by simp [List.getD_eq_getElem?_getD,h]
abbrev On0 := (Nat × Nat) × Unit × (Nat × Nat × Nat) × (Nat × Nat × Nat) × Int × Unit
theorem on_b0 {k : Nat} (hk : Many k) (D : List (List Nat)) (hD : Rows D) (pl : Nat × Nat) (li ui : Nat) (hne : li ≠ ui) (S : List LV) (hL : IntsObj S li D.length (leftTo D (List.replicate D.length true) 0)) (hU : RowsObj S ui D.length (usersTo D (List.replicate D.length true) 0)) :
  ∃ S',(IntsObj S' li D.length (leftTo D (List.replicate D.length true) D.length) ∧ RowsObj S' ui D.length (usersTo D (List.replicate D.length true) D.length) ∧ Keeps S S' [li,ui]) ∧
   ∀ J : On0 → List LV → Option R,rounds (G.steps_plan_order_nils.b0 k J) k (pl,(),(li,0,D.length),(ui,0,D.length),0,D.map rowS,(D.length : Int),0,()) S = J (pl,(),(li,0,D.length),(ui,0,D.length),(D.length : Int),()) S' := by
 have hk' := hk
 unfold Many at hk'
 have h500 := hD.small.1
 refine loop_all (R := R) (b := fun J => G.steps_plan_order_nils.b0 k J) (x := fun t => (pl,(),(li,0,D.length),(ui,0,D.length),(t : Int),D.map rowS,(D.length : Int),(t : Int),())) (n := D.length)
  (Inv := fun t S1 => IntsObj S1 li D.length (leftTo D (List.replicate D.length true) t) ∧ RowsObj S1 ui D.length (usersTo D (List.replicate D.length true) t) ∧ Keeps S S1 [li,ui])
  (out := fun (J : On0 → List LV → Option R) S' => J (pl,(),(li,0,D.length),(ui,0,D.length),(D.length : Int),()) S')
  (fun t S1 ht hI => ?_) (fun J rec S1 hI => ?_) k (by omega) S ⟨hL,hU,Keeps.refl _ _⟩
 ·obtain ⟨h1,h2,h3⟩ := hI
  have hin := allTrue D.length t ht
  have hK1 : Keeps S1 (S1.set li (intsO D.length (updF (leftTo D (List.replicate D.length true) t) t (((D.getD t []).length : Nat) : Int)))) [li] := Keeps.set _ _ _
  have hL1 := IntsObj.of S1 li D.length (updF (leftTo D (List.replicate D.length true) t) t (((D.getD t []).length : Nat) : Int)) (lt_get h1 (by simp))
  have hU1 : RowsObj (S1.set li (intsO D.length (updF (leftTo D (List.replicate D.length true) t) t (((D.getD t []).length : Nat) : Int)))) ui D.length (usersTo D (List.replicate D.length true) t) := hK1.get h2 (by simp) (by simp; exact Ne.symm hne)
  obtain ⟨S2,⟨h4,h5⟩,h6⟩ := on_b1 (R := R) hk D hD (List.replicate D.length true) pl (li,0,D.length) ui t ht ((t + 1 : Nat) : Int) (D.map rowS) (D.length : Int) (t : Int) _ hU1
  refine ⟨S2,⟨?_,?_,h3.trans ((hK1.weak (fun m hm => by simp at hm; simp [hm])).trans (h5.weak (fun m hm => by simp at hm; simp [hm])))⟩,fun J rec => ?_⟩
  ·rw [← left_upd D _ t hin]
   exact h5.get hL1 (by simp) (by simp; exact hne)
  ·rw [← users_full D _ t hin]; exact h4
  ·unfold G.steps_plan_order_nils.b0 G.steps_plan_order_nils.q1 G.steps_plan_order_nils.q2 G.steps_plan_order_nils.q3 G.steps_plan_order_nils.q0
   dsimp only
   rw [lt_nat,ifB_pos ht,row_at D t ht,show (true == true) = true from rfl,ifB_true,ifB_true,ints_len,idxN_nat ht]
   refine (IntsObj.st h1 ht _ _).trans ?_
   rw [wrap_succ (by omega)]
   refine (h6 _).trans ?_
   dsimp only
   rw [wrap_succ (by omega)]
 ·unfold G.steps_plan_order_nils.b0
  dsimp only
  rw [lt_nat,ifB_neg (Nat.lt_irrefl _)]
end
end Go.Lm
set_option maxRecDepth 100000
namespace Go.Lm
section
variable {R : Type}
theorem IntsObj.congr {S : List LV} {id n : Nat} {g g' : Nat → Int} (h : IntsObj S id n g) (hg : ∀ i,i < n → g i = g' i) : IntsObj S id n g' := by
 unfold IntsObj at h ⊢
 rw [h]
 congr 1
 exact List.map_congr_left fun i hi => by rw [hg i (List.mem_range.1 hi)]
abbrev OmT := Unit × (Nat × Nat × Nat) × (Nat × Nat × Nat) × Int × (Nat × Nat × Nat) × LL × Unit
theorem on_b4 {k : Nat} (hk : Many k) (n : Nat) (ul : List Nat) (hul : ul.length ≤ 500) (hnd : ul.Nodup) (hlt : ∀ u ∈ ul,u < n) (li : Nat) (ui : Nat × Nat × Nat) (many : Int) (di : Nat × Nat × Nat) (out : LL) (g : Nat → Int) (hg : ∀ i,-1000 ≤ g i ∧ g i ≤ 1000) (S : List LV) (hS : IntsObj S li n g) :
  ∃ S',(IntsObj S' li n (fun i => g i - cond (ul.contains i) 1 0) ∧ Keeps S S' [li]) ∧
   ∀ J : OmT → List LV → Option R,rounds (G.steps_plan_order_nils.b4 k J) k ((),(li,0,n),ui,many,di,out,ints ul,(ul.length : Int),0,()) S = J ((),(li,0,n),ui,many,di,out,()) S' := by
 have hk' := hk
 unfold Many at hk'
 have hl := loop_all (R := R) (b := fun J => G.steps_plan_order_nils.b4 k J) (x := fun t => ((),(li,0,n),ui,many,di,out,ints ul,(ul.length : Int),(t : Int),())) (n := ul.length)
  (Inv := fun t S1 => IntsObj S1 li n (fun i => g i - cond ((ul.take t).contains i) 1 0) ∧ Keeps S S1 [li])
  (out := fun (J : OmT → List LV → Option R) S' => J ((),(li,0,n),ui,many,di,out,()) S')
  (fun t S1 ht hI => ?_) (fun J rec S1 hI => ?_) k (by omega) S ⟨hS.congr (fun i _ => by simp),Keeps.refl _ _⟩
 ·obtain ⟨S',⟨h1,h2⟩,h3⟩ := hl
  rw [List.take_length] at h1
  exact ⟨S',⟨h1,h2⟩,h3⟩
 ·obtain ⟨h1,h2⟩ := hI
  have hu : ul.getD t 0 < n := hlt _ (nat_mem _ t ht)
  have hg1 := hg (ul.getD t 0)
  have h0 : g (ul.getD t 0) - cond ((ul.take t).contains (ul.getD t 0)) 1 0 = g (ul.getD t 0) := by
   rw [nodup_take hnd t ht,cond_false,Int.sub_zero]
  refine ⟨S1.set li (intsO n (updF (fun i => g i - cond ((ul.take t).contains i) 1 0) (ul.getD t 0) (g (ul.getD t 0) - 1))),⟨?_,h2.trans (Keeps.set _ _ _)⟩,fun J rec => ?_⟩
  ·refine (IntsObj.of _ _ _ _ (lt_get h1 (by simp))).congr fun i _ => ?_
   unfold updF
   rw [take_contains _ t ht]
   by_cases e : i = ul.getD t 0
   ·subst e; simp
   ·have e0 : (i == ul.getD t 0) = false := by simpa using e
    rw [e0,Bool.or_false]; rfl
  ·unfold G.steps_plan_order_nils.b4
   dsimp only
   rw [lt_nat,ifB_pos ht,idxL_nat (by rw [ints_len]; exact ht),ints_get _ t ht,leaf_int,idxN_nat hu,IntsObj.ld h1 hu,h0,idxN_nat hu]
   refine (IntsObj.st h1 hu _ _).trans ?_
   rw [wrap_id (n := g (ul.getD t 0) - 1) (by omega) (by omega),wrap_succ (by omega)]
 ·unfold G.steps_plan_order_nils.b4
  dsimp only
  rw [lt_nat,ifB_neg (Nat.lt_irrefl _)]
theorem scan_find {β : Type} (p : Nat → Bool) (f : Nat → β) (n : Nat) : ∀ d i,i + d = n → scan (fun j => cond (p j) (some (f j)) none) (f n) d i = f (((List.range' i d).find? p).getD n)
 | 0,i,h => rfl
 | d + 1,i,h => by
  simp only [scan,List.range'_succ,List.find?_cons]
  cases p i with
  | true => rfl
  | false => exact scan_find p f n d (i + 1) (by omega)
def readyP (g : Nat → Int) (d : List Bool) (i : Nat) : Bool := !(d.getD i false) && decide (g i ≤ 0)
theorem on_b3 {k : Nat} (hk : Many k) (n : Nat) (hn : n ≤ 500) (li di : Nat) (ui : Nat × Nat × Nat) (many : Int) (out : LL) (g : Nat → Int) (d : List Bool) (hd : d.length = n) (S : List LV) (hS : IntsObj S li n g) (hB : BoolsAt S di d) (J : Unit × (Nat × Nat × Nat) × (Nat × Nat × Nat) × Int × (Nat × Nat × Nat) × LL × Int × Unit → List LV → Option R) :
  rounds (G.steps_plan_order_nils.b3 k J) k ((),(li,0,n),ui,many,(di,0,n),out,0,()) S = J ((),(li,0,n),ui,many,(di,0,n),out,((((List.range n).find? (readyP g d)).getD n : Nat) : Int),()) S := by
 unfold Many at hk
 refine (rounds_scan0 (fun t => ((),(li,0,n),ui,many,(di,0,n),out,(t : Int),())) S n k (fun t => cond (readyP g d t) (some (J ((),(li,0,n),ui,many,(di,0,n),out,(t : Int),()) S)) none) (J ((),(li,0,n),ui,many,(di,0,n),out,(n : Int),()) S) (fun rec t ht => ?_) (fun rec => ?_) (by omega)).trans ?_
 ·unfold G.steps_plan_order_nils.b3 G.steps_plan_order_nils.q7
  dsimp only
  rw [lt_nat,ifB_pos ht,idxN_nat ht,BoolsAt.ld hB (by omega)]
  unfold readyP
  cases d.getD t false with
  | true =>
   rw [ifB_true,wrap_succ (by omega)]; rfl
  | false =>
   rw [ifB_false,idxN_nat ht,IntsObj.ld hS ht]
   by_cases hg : g t > 0
   ·rw [decide_eq_true hg,ifB_true,wrap_succ (by omega),decide_eq_false (by omega : ¬ g t ≤ 0)]; rfl
   ·rw [decide_eq_false hg,ifB_false,decide_eq_true (by omega : g t ≤ 0),show (!(true == true)) = false from rfl,ifB_false]; rfl
 ·unfold G.steps_plan_order_nils.b3
  dsimp only
  rw [lt_nat,ifB_neg (Nat.lt_irrefl _)]
 ·rw [scan_find (readyP g d) (fun t => J ((),(li,0,n),ui,many,(di,0,n),out,(t : Int),()) S) n n 0 (by omega),← List.range_eq_range']
def leftD (D : List (List Nat)) (d : List Bool) (i : Nat) : Int := (((D.getD i []).filter fun x => !(d.getD x false)).length : Nat)
theorem ready_good (D : List (List Nat)) (d : List Bool) (i : Nat) (hi : i < D.length) : readyP (leftD D d) d i = goodAt D (List.replicate D.length true) d i := by
 unfold readyP goodAt
 rw [allTrue _ _ hi,Bool.true_and]
 congr 1
 unfold leftD rdyS
 rw [Bool.eq_iff_iff,decide_eq_true_iff,List.all_eq_true]
 constructor
 ·intro h x hx
  have h0 : (D.getD i []).filter (fun x => !(d.getD x false)) = [] := List.eq_nil_of_length_eq_zero (by omega)
  rw [List.filter_eq_nil_iff] at h0
  have := h0 x hx
  simpa using this
 ·intro h
  have h0 : (D.getD i []).filter (fun x => !(d.getD x false)) = [] := List.filter_eq_nil_iff.2 fun x hx => by rw [h x hx]; decide
  rw [h0]; simp
theorem filter_done (d : List Bool) (k : Nat) (hk : k < d.length) (hd : d.getD k false = false) : ∀ (r : List Nat),r.Nodup → (r.filter fun x => !((d.set k true).getD x false)).length + cond (r.contains k) 1 0 = (r.filter fun x => !(d.getD x false)).length
 | [],_ => rfl
 | a :: r,h => by
  have hn := List.nodup_cons.1 h
  have ih := filter_done d k hk hd r hn.2
  by_cases e : a = k
  ·subst e
   have hc : r.contains a = false := by simpa using hn.1
   rw [hc] at ih
   have e1 : (d.set a true).getD a false = true := by simp [List.getD_eq_getElem?_getD,hk]
   simp only [List.filter_cons,e1,hd,List.contains_cons,beq_self_eq_true,Bool.true_or,cond_true,Bool.not_true,Bool.not_false]
   simp only [cond_false] at ih
   simp only [if_true,List.length_cons,Bool.false_eq_true,if_false]
   omega
  ·have e1 : (d.set k true).getD a false = d.getD a false := by
    simp only [List.getD_eq_getElem?_getD,List.getElem?_set_ne (Ne.symm e)]
   have e2 : (k == a) = false := by simp; omega
   simp only [List.filter_cons,e1,List.contains_cons,e2,Bool.false_or]
   cases d.getD a false
   ·simp only [Bool.not_false,if_true,List.length_cons]; omega
   ·simp only [Bool.not_true,Bool.false_eq_true,if_false]; exact ih
theorem users_contains (D : List (List Nat)) (i k : Nat) (hi : i < D.length) : (usersTo D (List.replicate D.length true) D.length k).contains i = (D.getD i []).contains k := by
 unfold usersTo
 rw [Bool.eq_iff_iff,List.contains_iff_mem,List.mem_filter,List.mem_range,allTrue _ _ hi,Bool.true_and]
 exact ⟨fun h => h.2,fun h => ⟨hi,h⟩⟩
theorem left_done (D : List (List Nat)) (hD : Rows D) (d : List Bool) (k : Nat) (hk : k < d.length) (hd : d.getD k false = false) (i : Nat) (hi : i < D.length) :
  leftD D d i - cond ((usersTo D (List.replicate D.length true) D.length k).contains i) 1 0 = leftD D (d.set k true) i := by
 have h := filter_done d k hk hd (D.getD i []) (hD.get i hi)
 rw [users_contains D i k hi]
 unfold leftD
 rw [← h]
 cases (D.getD i []).contains k <;> simp
theorem leftD_le (D : List (List Nat)) (hD : Rows D) (d : List Bool) (i : Nat) : -1000 ≤ leftD D d i ∧ leftD D d i ≤ 1000 := by
 unfold leftD
 have h := List.length_filter_le (fun x => !(d.getD x false)) (D.getD i [])
 have h2 : (D.getD i []).length ≤ 500 := by
  rcases Nat.lt_or_ge i D.length with hi | hi
  ·exact (hD.small.get i hi).1
  ·rw [List.getD_eq_getElem?_getD,List.getElem?_eq_none hi]; simp
 constructor <;> omega
end
end Go.Lm
set_option maxRecDepth 100000
namespace Go.Lm
section
variable {R : Type}
theorem find_congr {p q : Nat → Bool} : ∀ (l : List Nat),(∀ x ∈ l,p x = q x) → l.find? p = l.find? q
 | [],_ => rfl
 | a :: l,h => by
  rw [List.find?_cons,List.find?_cons,h a (by simp),find_congr l fun x hx => h x (by simp [hx])]
theorem all_done {d : List Bool} (h : d.count false = 0) (i : Nat) (hi : i < d.length) : d.getD i false = true := by
 have := List.count_eq_zero.1 h
 rw [List.getD_eq_getElem?_getD,List.getElem?_eq_getElem hi,Option.getD_some]
 cases hb : d[i] with
 | true => rfl
 | false => exact absurd (hb ▸ List.getElem_mem hi) this
theorem some_left {d : List Bool} (h : 0 < d.count false) : ∃ i,i < d.length ∧ d.getD i false = false := by
 have := List.count_pos_iff.1 h
 obtain ⟨i,hi,e⟩ := List.mem_iff_getElem.1 this
 exact ⟨i,hi,by rw [List.getD_eq_getElem?_getD,List.getElem?_eq_getElem hi,Option.getD_some,e]⟩
theorem on_b2 {k : Nat} (hk : Many k) (D : List (List Nat)) (hD : Rows D) (li ui di : Nat) (h1 : li ≠ ui) (h2 : li ≠ di) (h3 : ui ≠ di) :
  ∀ (f : Nat) (d : List Bool) (out : List Nat) (fuel : Nat) (S : List LV),d.length = D.length → d.count false < f → out.length + d.count false = D.length → f ≤ fuel →
   IntsObj S li D.length (leftD D d) → RowsObj S ui D.length (usersTo D (List.replicate D.length true) D.length) → BoolsAt S di d →
   ∃ S',Keeps S S' [li,di] ∧ ∀ q : (LL × Unit → List LV → Option R) × (LL × Bool × Unit → List LV → Option R),
    rounds (G.steps_plan_order_nils.b2 k q.1 q.2) fuel ((),(li,0,D.length),(ui,0,D.length),(D.length : Int),(di,0,D.length),ints out,()) S =
     cond (ordS D (List.replicate D.length true) f d out).2 (q.1 (ints (ordS D (List.replicate D.length true) f d out).1,()) S') (q.2 ([],false,()) S')
 | 0,d,out,fuel,S,hd,hf,ho,hfu,hL,hU,hB => absurd hf (by omega)
 | f + 1,d,out,fuel,S,hd,hf,ho,hfu,hL,hU,hB => by
  obtain ⟨m,rfl⟩ : ∃ m,fuel = m + 1 := ⟨fuel - 1,by omega⟩
  have hlen := hD.small.1
  have hnx : (List.range D.length).find? (readyP (leftD D d) d) = nextS D (List.replicate D.length true) d := by
   unfold nextS
   exact find_congr _ fun x hx => ready_good D d x (List.mem_range.1 hx)
  have hb3 := fun J => on_b3 (R := R) hk D.length hlen li di (ui,0,D.length) (D.length : Int) (ints out) (leftD D d) d hd S hL hB J
  rw [hnx] at hb3
  unfold ordS
  rcases Nat.eq_zero_or_pos (d.count false) with hc | hc
  ·have hn : nextS D (List.replicate D.length true) d = none := by
    unfold nextS
    rw [List.find?_eq_none]
    intro x hx
    unfold goodAt
    rw [all_done hc x (by rw [hd]; exact List.mem_range.1 hx)]
    simp
   have hl : (List.range D.length).any (leftAt (List.replicate D.length true) d) = false := by
    rw [List.any_eq_false]
    intro x hx
    unfold leftAt
    rw [all_done hc x (by rw [hd]; exact List.mem_range.1 hx)]
    simp
   rw [hn,hl]
   refine ⟨S,Keeps.refl _ _,fun q => ?_⟩
   rw [rounds_succ]
   unfold G.steps_plan_order_nils.b2
   dsimp only
   rw [ints_len,lt_nat,ifB_neg (by omega)]
   rfl
  ·have hlt : out.length < D.length := by omega
   cases hn : nextS D (List.replicate D.length true) d with
   | none =>
    have hl : (List.range D.length).any (leftAt (List.replicate D.length true) d) = true := by
     obtain ⟨i,hi,e⟩ := some_left hc
     rw [hd] at hi
     rw [List.any_eq_true]
     refine ⟨i,List.mem_range.2 hi,?_⟩
     unfold leftAt
     rw [e,allTrue _ _ hi]; rfl
    rw [hl]
    rw [hn] at hb3
    refine ⟨S,Keeps.refl _ _,fun q => ?_⟩
    rw [rounds_succ]
    unfold G.steps_plan_order_nils.b2
    dsimp only
    rw [ints_len,lt_nat,ifB_pos hlt]
    refine (hb3 _).trans ?_
    dsimp only [Option.getD_none]
    rw [show ((D.length : Int) == (D.length : Int)) = true from beq_self_eq_true _,ifB_true]
    rfl
   | some i =>
    obtain ⟨hil,hg⟩ := nextS_some hn
    have hdf : d.getD i false = false := by
     unfold goodAt at hg
     simp only [Bool.and_eq_true,Bool.not_eq_true'] at hg
     exact hg.1.2
    have hcs := count_set (d := d) (by omega) hdf
    rw [hn] at hb3
    let S1 := S.set di (.obj 4 (bools (d.set i true)))
    have hK1 : Keeps S S1 [di] := Keeps.set _ _ _
    have hL1 : IntsObj S1 li D.length (leftD D d) := hK1.get hL (by simp) (by simp; exact h2)
    have hU1 : RowsObj S1 ui D.length (usersTo D (List.replicate D.length true) D.length) := hK1.get hU (by simp) (by simp; exact h3)
    have hB1 : BoolsAt S1 di (d.set i true) := hB.set _
    have hul := usersTo_len D (List.replicate D.length true) D.length i
    have hlu : ∀ u ∈ usersTo D (List.replicate D.length true) D.length i,u < D.length := fun u hu => List.mem_range.1 (List.mem_filter.1 hu).1
    obtain ⟨S2,⟨hL2,hK2⟩,hb4⟩ := on_b4 (R := R) hk D.length (usersTo D (List.replicate D.length true) D.length i) (by omega) (List.nodup_range.sublist List.filter_sublist) hlu li (ui,0,D.length) (D.length : Int) (di,0,D.length) (ints (out ++ [i])) (leftD D d) (fun j => leftD_le D hD d j) S1 hL1
    have hL3 : IntsObj S2 li D.length (leftD D (d.set i true)) := hL2.congr fun j hj => left_done D hD d i (by omega) hdf j hj
    have hU2 : RowsObj S2 ui D.length (usersTo D (List.replicate D.length true) D.length) := hK2.get hU1 (by simp) (by simp; exact Ne.symm h1)
    have hB2 : BoolsAt S2 di (d.set i true) := hK2.get hB1 (by simp) (by simp; exact Ne.symm h2)
    obtain ⟨S3,hK3,hr⟩ := on_b2 hk D hD li ui di h1 h2 h3 f (d.set i true) (out ++ [i]) m S2 (by simp [hd]) (by omega) (by simp; omega) (by omega) hL3 hU2 hB2
    refine ⟨S3,((hK1.weak (fun m hm => by simp at hm; simp [hm])).trans (hK2.weak (fun m hm => by simp at hm; simp [hm]))).trans hK3,fun q => ?_⟩
    rw [rounds_succ]
    unfold G.steps_plan_order_nils.b2
    dsimp only
    rw [ints_len,lt_nat,ifB_pos hlt]
    refine (hb3 _).trans ?_
    dsimp only [Option.getD_some]
    rw [show ((i : Int) == (D.length : Int)) = false by simp; omega,ifB_false,idxN_nat hil,hB.st (by omega),app_one (by rw [ints_len]; omega) (by rw [ints_len]; omega),ints_snoc,idxN_nat hil]
    refine (RowsObj.ld hU1 hil _).trans ?_
    rw [ints_len]
    refine (hb4 _).trans ?_
    exact hr q
end
end Go.Lm
set_option maxRecDepth 100000
namespace Go.Lm
section
variable {R : Type}
theorem plan_l (l : List LV) (id : Nat) (deps : LV) (K : List LV → Option R) : ldSl 8 [.sl 8 l,.map id,deps] (0 + 0) K = K l := asSl_sl 8 _ K
theorem plan_deps (l : List LV) (id : Nat) (D : List (List Nat)) (K : List LV → Option R) : ldSl 1 [.sl 8 l,.map id,depsV D] (0 + 2) K = K (D.map rowS) := by
 cases D with
 | nil => rfl
 | cons a D => exact asSl_sl 1 _ K
theorem left_zero (D : List (List Nat)) (n i : Nat) (hi : i < D.length) : leftTo D (List.replicate D.length true) D.length i = leftD D (List.replicate n false) i := by
 unfold leftTo leftD
 rw [decide_eq_true hi,allTrue _ _ hi]
 have e : (D.getD i []).filter (fun x => !((List.replicate n false).getD x false)) = D.getD i [] := List.filter_eq_self.2 fun x _ => by
  rcases Nat.lt_or_ge x n with h | h
  ·simp [List.getD_eq_getElem?_getD,h]
  ·simp [List.getD_eq_getElem?_getD,List.getElem?_eq_none (show (List.replicate n false).length ≤ x by simpa using h)]
 rw [e]; rfl
theorem order_all {k : Nat} (hk : Many k) (l : List Rule) (id : Nat) (f : ByteArray → Option Nat) (D : List (List Nat)) (hD : Rows D) (hl : D.length = l.length) (S : List LV) (hP : PlanAt S id l f (depsV D)) :
  ∃ S',Keeps S S' [] ∧ ∀ K : LL × Bool × Unit → List LV → Option R,G.steps_plan_order_nils.fn k ((id + 1,0),(),()) S K =
   cond (orderedS D (List.replicate D.length true)).2 (K (ints (orderedS D (List.replicate D.length true)).1,true,()) S') (K ([],false,()) S') := by
 have hk' := hk
 unfold Many at hk'
 have h500 := hD.small.1
 have hid := lt_get hP.plan (by simp)
 let S1 := S ++ [intsO D.length (fun _ => 0)]
 let S2 := S1 ++ [rowsO D.length (fun _ => [])]
 have hK1 : Keeps S S1 [] := Keeps.app _ _ _
 have hK2 : Keeps S1 S2 [] := Keeps.app _ _ _
 have hl1 : S1.length = S.length + 1 := by simp [S1]
 have hl2 : S2.length = S.length + 2 := by simp [S2,hl1]
 have hL : IntsObj S2 S.length D.length (leftTo D (List.replicate D.length true) 0) := by
  have h : IntsObj S2 S.length D.length (fun _ => 0) := get_app _ (get_end _ _) (by simp [intsO])
  exact h.congr fun i _ => by simp [leftTo]
 have hU : RowsObj S2 S1.length D.length (usersTo D (List.replicate D.length true) 0) := by
  have h : RowsObj S2 S1.length D.length (fun _ => []) := get_end _ _
  exact h
 obtain ⟨S3,⟨hL3,hU3,hK3⟩,hb0⟩ := on_b0 (R := R) hk D hD (id + 1,0) S.length S1.length (by omega) S2 hL hU
 let S4 := S3 ++ [.obj 4 (bools (List.replicate D.length false))]
 have hK4 : Keeps S3 S4 [] := Keeps.app _ _ _
 have hl3 := hK3.1
 obtain ⟨S5,hK5,hb2⟩ := on_b2 (R := R) hk D hD S.length S1.length S3.length (by omega) (by omega) (by omega) (D.length + 1) (List.replicate D.length false) [] k S4 (by simp) (by simp [List.count_replicate]) (by simp [List.count_replicate]) (by omega)
  ((show IntsObj S4 _ _ _ from hK4.get hL3 (by simp) (by simp)).congr fun i hi => left_zero D D.length i hi) (hK4.get hU3 (by simp) (by simp)) (by unfold BoolsAt; exact get_end _ _)
 have hK : Keeps S S5 [] := by
  refine Keeps.weak (M := [S.length,S1.length,S3.length]) ?_ (fun m hm => by simp at hm; omega)
  exact (hK1.weak (fun m hm => by simp at hm)).trans ((hK2.weak (fun m hm => by simp at hm)).trans ((hK3.weak (fun m hm => .inl (by simp at hm ⊢; omega))).trans ((hK4.weak (fun m hm => by simp at hm)).trans (hK5.weak (fun m hm => .inl (by simp at hm ⊢; omega))))))
 have hp1 : S1.getD (id + 1) .any = .obj 66 [.sl 8 (l.map Rule.lv),.map id,depsV D] := hK1.get hP.plan (by simp) (by simp)
 have hp2 : S2.getD (id + 1) .any = .obj 66 [.sl 8 (l.map Rule.lv),.map id,depsV D] := hK2.get hp1 (by simp) (by simp)
 have hp3 : S3.getD (id + 1) .any = .obj 66 [.sl 8 (l.map Rule.lv),.map id,depsV D] := hK3.get hp2 (by simp) (by simp; omega)
 refine ⟨S5,hK,fun K => ?_⟩
 unfold G.steps_plan_order_nils.fn
 dsimp only
 rw [at_of hP.plan,plan_l,List.length_map,← hl,ifB_pos rfl,mkN_nat (by omega) _ (by omega)]
 unfold newObj
 have e1 : LV.obj 3 (zeros D.length [.int .i64 0]) = intsO D.length (fun _ => 0) := by
  rw [zeros_nil]
  unfold intsO
  congr 1
  rw [List.map_const']
  simp
 have e2 : LV.obj 45 (zeros D.length [.nilsl]) = rowsO D.length (fun _ => []) := by
  rw [zeros_nil]
  unfold rowsO
  congr 1
  show _ = (List.range D.length).map fun _ => LV.nilsl
  rw [List.map_const']
  simp
 rw [e1,show S ++ [intsO D.length (fun _ => 0)] = S1 from rfl]
 dsimp only
 rw [at_of hp1,plan_l,List.length_map,← hl,ifB_pos rfl,mkN_nat (by omega) _ (by omega),e2,show S1 ++ [rowsO D.length (fun _ => [])] = S2 from rfl,at_of hp2,plan_deps,List.length_map]
 refine (hb0 _).trans ?_
 dsimp only
 rw [at_of hp3,plan_l,List.length_map,← hl,ifB_pos rfl,mkN_nat (by omega) _ (by omega),zeros_bool,show S3 ++ [LV.obj 4 (bools (List.replicate D.length false))] = S4 from rfl]
 exact hb2 (_,_)
end
end Go.Lm
set_option maxRecDepth 100000
namespace Go.Lm
section
variable {R : Type}
theorem scanE_all {e : Nat → Option Int} {n : Nat} (h : scanE e n 0 = none) : ∀ j,j < n → e j = none := fun j hj => firstE_none n 0 h j (Nat.zero_le _) (by omega)
theorem scanE_pos {e : Nat → Option Int} (hp : ∀ j r,e j = some r → r ≠ 0) {n : Nat} {r : Int} (h : scanE e n 0 = some r) : r ≠ 0 := firstE_some (P := fun r => r ≠ 0) hp n 0 r h
def Single (l : List Rule) : Prop := ∀ i,i < l.length → ∀ p ∈ (l.getD i .zero).act.outs,outsIn (l.take i) p = false
theorem single_of {l : List Rule} (h : allOutE l = none) : Single l := fun i hi p hp => by
 have h1 := scanE_all h i hi
 obtain ⟨j,hj,e⟩ := List.mem_iff_getElem.1 hp
 have h2 := scanE_all h1 j hj
 have e2 : outAt l i j = p := by
  unfold outAt
  rw [List.getD_eq_getElem?_getD (l := (l.getD i .zero).act.outs),List.getElem?_eq_getElem hj]; exact e
 rw [e2] at h2
 unfold outE at h2
 cases ho : outsIn (l.take i) p with
 | false => rfl
 | true => rw [ho] at h2; cases h2
theorem outsIn_mem {l : List Rule} {i k : Nat} (hk : k < i) (hi : i ≤ l.length) {p : ByteArray} (hp : p ∈ (l.getD k .zero).act.outs) : outsIn (l.take i) p = true := by
 unfold outsIn
 rw [List.any_eq_true]
 refine ⟨l.getD k .zero,?_,(isIn_iff _ _).2 hp⟩
 have hkl : k < l.length := by omega
 rw [List.getD_eq_getElem?_getD,List.getElem?_eq_getElem hkl]
 exact List.mem_iff_getElem.2 ⟨k,by rw [List.length_take]; omega,by simp⟩
theorem ofN_iff {l : List Rule} (hs : Single l) (p : ByteArray) (k : Nat) : ∀ i,i ≤ l.length → (ofN l i p = some k ↔ k < i ∧ p ∈ (l.getD k .zero).act.outs)
 | 0,_ => ⟨fun h => (by cases h),fun h => absurd h.1 (by omega)⟩
 | i + 1,hi => by
  have ih := ofN_iff hs p k i (by omega)
  show cond (isIn (l.getD i .zero).act.outs p) (some i) (ofN l i p) = some k ↔ _
  cases hb : isIn (l.getD i .zero).act.outs p with
  | true =>
   have hm := (isIn_iff _ _).1 hb
   rw [cond_true]
   constructor
   ·intro h; cases h; exact ⟨by omega,hm⟩
   ·rintro ⟨h1,h2⟩
    rcases Nat.lt_or_ge k i with h3 | h3
    ·have := hs i (by omega) p hm
     rw [outsIn_mem h3 (by omega) h2] at this; cases this
    ·have : k = i := by omega
     rw [this]
  | false =>
   rw [cond_false,ih]
   constructor
   ·exact fun h => ⟨by omega,h.2⟩
   ·rintro ⟨h1,h2⟩
    refine ⟨?_,h2⟩
    rcases Nat.lt_or_ge k i with h3 | h3
    ·exact h3
    ·have : k = i := by omega
     subst this
     rw [(isIn_iff _ _).2 h2] at hb; cases hb
theorem deps_needs {l : List Rule} (hs : Single l) : depsTo l l.length = needsAll l := by
 unfold depsTo needsAll
 apply List.map_congr_left
 intro i _
 unfold depsOf needsS needsTo
 apply List.filter_congr
 intro k hk
 have hk := List.mem_range.1 hk
 unfold usesP usesS
 rw [Bool.eq_iff_iff,List.any_eq_true,List.any_eq_true]
 constructor
 ·rintro ⟨p,hp,h⟩
  have := (ofN_iff hs p k l.length (Nat.le_refl _)).1 (of_decide_eq_true h)
  exact ⟨p,this.2,(isIn_iff _ _).2 hp⟩
 ·rintro ⟨q,hq,h⟩
  exact ⟨q,(isIn_iff _ _).1 h,decide_eq_true ((ofN_iff hs q k l.length (Nat.le_refl _)).2 ⟨hk,hq⟩)⟩
theorem needs_rows (l : List Rule) (hn : l.length ≤ 500) : Rows (needsAll l) := by
 refine ⟨needs_small l hn,fun r hr => ?_⟩
 obtain ⟨i,hi,rfl⟩ := List.mem_map.1 hr
 exact List.nodup_range.sublist List.filter_sublist
theorem nameE_pos (l : List Rule) (j : Nat) (r : Int) (h : nameE l j = some r) : r ≠ 0 := by
 unfold nameE at h
 cases h1 : ruleS (l.getD j .zero) == 0 with
 | false => rw [h1] at h; cases h; exact fun e => by rw [e] at h1; cases h1
 | true =>
  rw [h1] at h
  generalize (decide (0 < j) && (strLt (ruleName l j) (ruleName l (j - 1)) || strEq (ruleName l j) (ruleName l (j - 1)))) = b at h
  cases b
  ·cases h
  ·cases h; decide
theorem allOut_pos (l : List Rule) (e : Int) (h : allOutE l = some e) : e ≠ 0 :=
 scanE_pos (fun i r hi => scanE_pos (fun j r hj => outE_pos l i _ r hj) hi) h
theorem ne_beq {e : Int} (h : e ≠ 0) : (e == 0) = false := by simpa using h
theorem prog_open {k : Nat} (hk : Many k) (l : List Rule) (ok : RulesOk l) (S : List LV) :
  ∃ S',Keeps S S' [] ∧ (checkRulesS l = 0 → PlanAt S' S.length l (ofN l l.length) (depsV (needsAll l))) ∧ ∀ K : LV × Int × Unit → List LV → Option R,G.steps_open.fn k (l.map Rule.lv,()) S K =
   cond (checkRulesS l == 0) (K (.ptr (S.length + 1) 0,0,()) S') (K (.nilp,checkRulesS l,()) S') := by
 unfold G.steps_open.fn checkRulesS
 dsimp only
 simp only [List.length_map]
 rw [show decide ((l.length : Int) > 500) = decide (l.length > 500) from gt_nat l.length 500]
 by_cases h : l.length > 500
 ·rw [decide_eq_true h]
  exact ⟨S,Keeps.refl _ _,fun h => (by cases h),fun K => rfl⟩
 ·have hn : l.length ≤ 500 := by omega
  rw [decide_eq_false h]
  simp only [ifB_false,cond_false,op_b0 hk l ok hn]
  cases hnm : firstE (nameE l) l.length with
  | some e =>
   have he : e ≠ 0 := scanE_pos (e := nameE l) (nameE_pos l) hnm
   simp only [Option.map_some,Option.getD_some]
   rw [ne_beq he]
   exact ⟨S,Keeps.refl _ _,fun h => absurd h he,fun K => rfl⟩
  | none =>
   simp only [Option.map_none,Option.getD_none]
   have hr := rules_right hnm
   have fit := rules_fit hn hr
   let S1 := S ++ [.mp .str []] ++ [.obj 66 [.sl 8 (l.map Rule.lv),.map S.length,.nilsl]]
   have hS1 : S1.length = S.length + 2 := by simp [S1]
   have hK1 : Keeps S S1 [] := (Keeps.app _ _ _).trans (Keeps.app _ _ _)
   have hP1 : PlanAt S1 S.length l (ofN l 0) .nilsl := by
    refine ⟨⟨[],get_app _ (get_end _ _) (by simp),fun e he => by simp at he,fun p => rfl⟩,?_⟩
    simp [S1]
   obtain ⟨S2,ids,⟨hA,hT,hK2,hids⟩,h2⟩ := prog_tangleOf (R := R) hk l hn (fun r hr' => (hr r hr').fit) S1
   obtain ⟨S3,hE,hOk,h3⟩ := op_b1 (R := R) hk l fit S.length ids (fun x hx => by have := hids x hx; omega) S2 (hP1.keeps hK2 (by simp) (by simp)) hT
   have e0 : (S ++ [LV.mp .str []]).length = S.length + 1 := by simp
   have hstart : ∀ (K : LV × Int × Unit → List LV → Option R) (J : List LV × (Nat × Nat) × Unit → List LV → Option R),(newObj S (.mp .str []) fun i15 S => newObj S (.obj 66 [.sl 8 (l.map Rule.lv),.map i15,.nilsl]) fun i16 S => G.steps_tangleOf.fn k (l.map Rule.lv,()) S fun r17 S => rounds (G.steps_open.b1 k J (fun o72 S => K (o72.1,o72.2.1,()) S)) k (l.map Rule.lv,(i16,0),(r17.1.1,r17.1.2.1,r17.1.2.2.1,r17.1.2.2.2.1,()),l.map Rule.lv,((l.map Rule.lv).length : Int),0,()) S) =
     (match allOutE l with | some e => K (.nilp,e,()) S3 | none => J (l.map Rule.lv,(S.length + 1,0),()) S3) := fun K J => by
    unfold newObj
    dsimp only
    rw [e0]
    refine (h2 _).trans ?_
    dsimp only
    rw [List.length_map]
    exact h3 (J,fun o72 S => K (o72.1,o72.2.1,()) S)
   cases ho : allOutE l with
   | some e =>
    have he := allOut_pos l e ho
    simp only [Option.getD_some]
    rw [ne_beq he]
    refine ⟨S3,Keeps.weak (M := [S.length]) ?_ (fun m hm => by simp at hm; omega),fun h => absurd h he,fun K => ?_⟩
    ·exact (hK1.weak (fun m hm => by simp at hm)).trans ((hK2.weak (fun m hm => by simp at hm)).trans (hE e ho))
    ·refine (hstart K _).trans ?_
     rw [ho]; rfl
   | none =>
    obtain ⟨hP3,hK3⟩ := hOk ho
    have hsg := single_of ho
    obtain ⟨S4,⟨hP4,hK4⟩,h4⟩ := op_b3 (R := R) hk l fit S.length S3 hP3
    rw [deps_needs hsg] at hP4
    obtain ⟨S5,hK5,h5⟩ := order_all (R := R) hk l S.length (ofN l l.length) (needsAll l) (needs_rows l hn) (needsAll_len l) S4 hP4
    rw [needsAll_len] at h5
    refine ⟨S5,Keeps.weak (M := [S.length,S.length + 1]) ?_ (fun m hm => by simp at hm; omega),fun _ => hP4.keeps hK5 (by simp) (by simp),fun K => ?_⟩
    ·exact (hK1.weak (fun m hm => by simp at hm)).trans ((hK2.weak (fun m hm => by simp at hm)).trans ((hK3.weak (fun m hm => .inl (by simp at hm ⊢; omega))).trans ((hK4.weak (fun m hm => .inl (by simp at hm ⊢; omega))).trans (hK5.weak (fun m hm => by simp at hm)))))
    ·refine (hstart K _).trans ?_
     rw [ho]
     dsimp only
     rw [List.length_map]
     refine (h4 _).trans ?_
     dsimp only
     refine (h5 _).trans ?_
     simp only [Option.getD_none]
     unfold loopS
     cases (orderedS (needsAll l) (List.replicate l.length true)).2 <;> rfl
end
end Go.Lm
set_option maxRecDepth 100000
namespace Go.Lm
section
variable {R : Type}
def edgeLV (l : List Rule) (i k : Nat) : LV := .agg [.str (ruleName l i),.str (ruleName l k)]
def rowE (l : List Rule) (i : Nat) : List LV := (needsS l i).map (edgeLV l i)
def accE (l : List Rule) (i : Nat) : List LV := ((List.range i).map (rowE l)).flatten
theorem accE_succ (l : List Rule) (i : Nat) : accE l (i + 1) = accE l i ++ rowE l i := by
 unfold accE
 rw [List.range_succ,List.map_append,List.flatten_append]
 simp
theorem rowE_len (l : List Rule) (i : Nat) : (rowE l i).length ≤ l.length := by
 unfold rowE
 rw [List.length_map]
 exact needsTo_len l i l.length
theorem accE_len (l : List Rule) (hn : l.length ≤ 500) : ∀ i,(accE l i).length ≤ i * 500
 | 0 => by simp [accE]
 | i + 1 => by
  rw [accE_succ,List.length_append]
  have := accE_len l hn i
  have := rowE_len l i
  omega
def edgesS (l : List Rule) : List LV := accE l l.length
theorem needs_lt (l : List Rule) (i j : Nat) (hj : j < (needsS l i).length) : (needsS l i).getD j 0 < l.length := by
 have := nat_mem (needsS l i) j hj
 exact List.mem_range.1 (List.mem_filter.1 this).1
theorem rowE_take (l : List Rule) (i j : Nat) (hj : j < (needsS l i).length) : (rowE l i).take (j + 1) = (rowE l i).take j ++ [edgeLV l i ((needsS l i).getD j 0)] := by
 have h : j < (rowE l i).length := by unfold rowE; rw [List.length_map]; exact hj
 rw [List.take_add_one,List.getElem?_eq_getElem h]
 congr 1
 simp [rowE,List.getD_eq_getElem?_getD,hj]
theorem rowE_all (l : List Rule) (i : Nat) : (rowE l i).take (needsS l i).length = rowE l i := List.take_of_length_le (by unfold rowE; rw [List.length_map]; exact Nat.le_refl _)
theorem name_at (l : List Rule) (i : Nat) (hi : i < l.length) (K : ByteArray → Option R) : (idxL (l.map Rule.lv) (i : Int) fun v => asStr (leaf v 0) K) = K (ruleName l i) := by
 rw [idxL_nat (by simpa using hi),rule_get l i hi]; rfl
theorem pe_b1 {k : Nat} (hk : Many k) (l : List Rule) (hn : l.length ≤ 500) (rows : LL) (nr ii : Int) (i : Nat) (hi : i < l.length) (S : List LV) (J : LL × LL × LL × Int × Int × Unit → List LV → Option R) :
  rounds (G.steps_Edges.b1 k J) k (l.map Rule.lv,accE l i,(i : Int),rows,nr,ii,ints (needsS l i),((needsS l i).length : Int),0,()) S = J (l.map Rule.lv,accE l (i + 1),rows,nr,ii,()) S := by
 have hk' := hk
 unfold Many at hk'
 have hlen := needsTo_len l i l.length
 have hacc := accE_len l hn i
 have h0 : accE l i = accE l i ++ (rowE l i).take 0 := by simp
 rw [h0]
 refine (rounds_scan0 (fun j => (l.map Rule.lv,accE l i ++ (rowE l i).take j,(i : Int),rows,nr,ii,ints (needsS l i),((needsS l i).length : Int),(j : Int),())) S (needsS l i).length k (fun _ => none) (J (l.map Rule.lv,accE l (i + 1),rows,nr,ii,()) S) (fun rec j hj => ?_) (fun rec => ?_) (by unfold needsS; omega)).trans (scan_none _ _ (fun _ _ _ => rfl))
 ·have hjl : j < l.length := by unfold needsS at hj; omega
  have htl : ((rowE l i).take j).length ≤ 500 := by rw [List.length_take]; omega
  unfold G.steps_Edges.b1
  dsimp only
  rw [lt_nat,ifB_pos hj,idxL_nat (by rw [ints_len]; exact hj),ints_get _ j hj,leaf_int,name_at l i hi,name_at l _ (needs_lt l i j hj)]
  rw [app_one (by rw [List.length_append]; omega) (by rw [List.length_append]; omega),List.append_assoc,rowE_take l i j hj,wrap_succ (by omega)]
  rfl
 ·unfold G.steps_Edges.b1
  dsimp only
  rw [lt_nat,ifB_neg (Nat.lt_irrefl _),rowE_all,accE_succ]
theorem pe_b0 {k : Nat} (hk : Many k) (l : List Rule) (hn : l.length ≤ 500) (S : List LV) (J : LL × Unit → List LV → Option R) :
  rounds (G.steps_Edges.b0 k J) k (l.map Rule.lv,[],(needsAll l).map rowS,(l.length : Int),0,()) S = J (edgesS l,()) S := by
 have hk' := hk
 unfold Many at hk'
 refine (rounds_scan0 (fun i => (l.map Rule.lv,accE l i,(needsAll l).map rowS,(l.length : Int),(i : Int),())) S l.length k (fun _ => none) (J (edgesS l,()) S) (fun rec i hi => ?_) (fun rec => ?_) (by omega)).trans (scan_none _ _ (fun _ _ _ => rfl))
 ·unfold G.steps_Edges.b0
  dsimp only
  have hg : (needsAll l).getD i [] = needsS l i := by simp [needsAll,List.getD_eq_getElem?_getD,hi]
  rw [lt_nat,ifB_pos hi,row_at (needsAll l) i (by rw [needsAll_len]; exact hi),hg,ints_len]
  refine (pe_b1 hk l hn _ _ _ i hi S _).trans ?_
  dsimp only
  rw [wrap_succ (by omega)]
 ·unfold G.steps_Edges.b0
  dsimp only
  rw [lt_nat,ifB_neg (Nat.lt_irrefl _)]; rfl
theorem edges_noId (n : Nat) (l : List Rule) (hn : 1 ≤ n) : (edgesS l).all (noId n) = true := by
 obtain ⟨n,rfl⟩ : ∃ m,n = m + 1 := ⟨n - 1,by omega⟩
 rw [List.all_eq_true]
 intro x hx
 unfold edgesS accE at hx
 obtain ⟨r,hr,hx⟩ := List.mem_flatten.1 hx
 obtain ⟨i,_,rfl⟩ := List.mem_map.1 hr
 obtain ⟨k,_,rfl⟩ := List.mem_map.1 hx
 show ([LV.str (ruleName l i),.str (ruleName l k)].all (noId n)) = true
 cases n <;> rfl
def edgesR (l : List Rule) : List LV := cond (checkRulesS l == 0) (edgesS l) []
theorem small_of {l : List Rule} (h : checkRulesS l = 0) : l.length ≤ 500 := by
 unfold checkRulesS at h
 cases hd : decide (l.length > 500) with
 | true => rw [hd] at h; cases h
 | false => have := of_decide_eq_false hd; omega
theorem prog_Edges {k : Nat} (hk : Many k) (l : List Rule) (ok : RulesOk l) (S : List LV) (K : LL × Int × Unit → List LV → Option R) : G.steps_Edges.fn k (l.map Rule.lv,()) S K = K (edgesR l,checkRulesS l,()) S := by
 obtain ⟨S',hK,hP,h⟩ := prog_open (R := LV × List LV) hk l ok S
 obtain ⟨G',hG⟩ := hK.grown
 unfold G.steps_Edges.fn edgesR
 have hrun : ∀ K : LL × Int × Unit → List LV → Option (LV × List LV),G.steps_Edges.fn0 k (l.map Rule.lv,()) S K = K (cond (checkRulesS l == 0) (edgesS l) [],checkRulesS l,()) S' := fun K => by
  unfold G.steps_Edges.fn0
  refine (h _).trans ?_
  cases hc : checkRulesS l == 0 with
  | false =>
   dsimp only [cond]
   rw [ne0,hc]; rfl
  | true =>
   have h0 := eq_of_beq hc
   have hn := small_of h0
   dsimp only [cond]
   rw [show ((0 : Int) != 0) = false from rfl,ifB_false]
   have e : ∀ K : Nat → Nat → Option (LV × List LV),asPtr (dup (.ptr (S.length + 1) 0)) K = K (S.length + 1) 0 := fun K => rfl
   rw [e,at_of (hP h0).plan,plan_deps,List.length_map,needsAll_len,h0]
   exact pe_b0 hk l hn S' _
 refine popK_at (rs := G.steps_Edges.rs) (r := ((cond (checkRulesS l == 0) (edgesS l) [],checkRulesS l,()) : LL × Int × Unit)) (G := G') ((hrun _).trans (by rw [← hG])) ?_
 show ([LV.own 33 2 (cond (checkRulesS l == 0) (edgesS l) []),.int .i64 (checkRulesS l)].all (noId 5)) = true
 have h1 : noId 5 (LV.own 33 2 (cond (checkRulesS l == 0) (edgesS l) [])) = true := by
  cases checkRulesS l == 0 with
  | true => exact edges_noId 4 l (by omega)
  | false => rfl
 rw [List.all_cons,h1]; rfl
end
end Go.Lm
set_option maxRecDepth 100000
namespace Go.Lm
section
variable {R : Type}
structure RuleCp (r : Rule) : Prop where
 fit : ActFit r.act
 ins : r.ins.length * 16 ≤ 140737488351232
end
end Go.Lm
set_option maxRecDepth 100000
namespace Go.Lm
section
variable {R : Type}
structure RuleLen (r : Rule) : Prop where
 act : ActLen r.act 140737488355328
 cmd : ∀ c ∈ r.act.cmds,c.length ≤ 140737488355328
 ins : r.ins.length ≤ 140737488355328
structure LawOk (l : List Rule) : Prop where
 ok : RulesOk l
 room : l.length * 160 ≤ 140737488355328
 cp : ∀ r ∈ l,RuleCp r
 len : ∀ r ∈ l,RuleLen r
end
end Go.Lm
set_option maxRecDepth 100000
namespace Go.Lm
section
variable {R : Type}
def NamesRise (l : List Rule) : Prop := ∀ i j,i < j → j < l.length → strLt (ruleName l i) (ruleName l j) = true
theorem names_rise {l : List Rule} (h : firstE (nameE l) l.length = none) : NamesRise l := fun i j hij hj => by
 have h1 : ∀ i,0 < i → i < l.length → strLt (ruleName l (i - 1)) (ruleName l i) = true := fun i h0 hi => (name_none (firstE_none' h i hi)).2 h0
 obtain ⟨d,rfl⟩ : ∃ d,j = i + 1 + d := ⟨j - (i + 1),by omega⟩
 clear hij
 induction d with
 | zero => have := h1 (i + 1) (by omega) hj; simpa using this
 | succ d ih =>
  have h2 := h1 (i + 1 + (d + 1)) (by omega) hj
  rw [show i + 1 + (d + 1) - 1 = i + 1 + d by omega] at h2
  exact strLt_trans (ih (by omega)) h2
theorem NamesRise.inj {l : List Rule} (h : NamesRise l) {i j : Nat} (hi : i < l.length) (hj : j < l.length) (e : ruleName l i = ruleName l j) : i = j := by
 rcases Nat.lt_trichotomy i j with h1 | h1 | h1
 ·have := h i j h1 hj
  rw [e,strLt_irrefl] at this; cases this
 ·exact h1
 ·have := h j i h1 hi
  rw [e,strLt_irrefl] at this; cases this
def findS (l : List Rule) (s : ByteArray) : Option Nat := (List.range l.length).find? fun i => strEq (ruleName l i) s
def findI (o : Option Nat) : Int := (o.map fun (n : Nat) => (n : Int)).getD (-1)
theorem findS_some {l : List Rule} {s : ByteArray} {i : Nat} (h : findS l s = some i) : i < l.length ∧ ruleName l i = s :=
 ⟨List.mem_range.1 (List.mem_of_find?_eq_some h),by have h := List.find?_some h; exact (strEq_iff _ _).1 h⟩
theorem findS_of {l : List Rule} (hr : NamesRise l) {s : ByteArray} {i : Nat} (hi : i < l.length) (e : ruleName l i = s) : findS l s = some i := by
 cases h : findS l s with
 | none =>
  unfold findS at h
  rw [List.find?_eq_none] at h
  exact absurd ((strEq_iff _ _).2 e) (h i (List.mem_range.2 hi))
 | some j =>
  obtain ⟨h1,h2⟩ := findS_some h
  rw [hr.inj h1 hi (h2.trans e.symm)]
theorem prog_bsearch {k : Nat} (hk : Many k) {l : List Rule} (hl : NamesRise l) (hn : l.length ≤ 500) (s : ByteArray) (S : List LV) (K : Int × Bool × Unit → List LV → Option R) :
  ∃ c,(∀ j,j < l.length → ruleName l j = s → j = c) ∧ G.slices_BinarySearchFunc_s_api_Rule_api_Rule_string_at_steps_plan_find_1.fn k (l.map Rule.lv,s,(),()) S K = K ((c : Int),(decide (c < l.length) && strEq (ruleName l c) s),()) S := by
 unfold Many at hk
 obtain ⟨c,h1,h2,h3⟩ := cut_at l.length (fun i => strLt (ruleName l i) s) (fun i j hij hj h => strLt_trans (hl i j hij hj) h)
 refine ⟨c,fun j hj he => ?_,?_⟩
 ·rcases Nat.lt_trichotomy j c with h | h | h
  ·have := h2 j h
   simp only [he,strLt_irrefl] at this
   cases this
  ·exact h
  ·have h4 := h3 c (Nat.le_refl _) (by omega)
   have h5 := hl c j h hj
   rw [he] at h5
   simp only [h5] at h4
   cases h4
 unfold G.slices_BinarySearchFunc_s_api_Rule_api_Rule_string_at_steps_plan_find_1.fn
 dsimp only
 rw [List.length_map]
 refine rounds_cut (fun lo hi => (l.map Rule.lv,s,(),(l.length : Int),(lo : Int),(hi : Int),())) S l.length c (fun i => strLt (ruleName l i) s) (fun c => K ((c : Int),(decide (c < l.length) && strEq (ruleName l c) s),()) S) h2 h3 h1 (fun rec lo hi hlt hle => ?_) (fun rec lo => ?_) l.length 0 l.length k (Nat.zero_le _) h1 (Nat.le_refl _) (by omega) (by omega)
 ·unfold G.slices_BinarySearchFunc_s_api_Rule_api_Rule_string_at_steps_plan_find_1.b0
  dsimp only
  rw [lt_nat,ifB_pos hlt,ifB_neg (by decide),mid_at lo hi (by omega),idxL_nat (by simp; omega),rule_get _ _ (by omega),Rule.mat,rule_cells]
  show ifB (decide (Lib.compareBytes _ _ < 0)) _ _ = _
  rw [cmp_strLt,wrap_succ (by omega)]
  show ifB (strLt (ruleName l ((lo + hi) / 2)) s) _ _ = _
  cases strLt (ruleName l ((lo + hi) / 2)) s <;> rfl
 ·unfold G.slices_BinarySearchFunc_s_api_Rule_api_Rule_string_at_steps_plan_find_1.b0
  dsimp only
  rw [lt_nat,ifB_neg (Nat.lt_irrefl _),lt_nat]
  cases hc : decide (lo < l.length) with
  | false => simp
  | true =>
   have hlt := of_decide_eq_true hc
   rw [ifB_true,idxL_nat (by simpa using hlt),rule_get _ _ hlt,Rule.mat,rule_cells]
   show K (_,(Lib.compareBytes _ _ == 0),()) S = _
   rw [cmp_strEq,Bool.true_and]; rfl
theorem prog_find {k : Nat} (hk : Many k) {l : List Rule} (hl : NamesRise l) (hn : l.length ≤ 500) {id : Nat} {f : ByteArray → Option Nat} {deps : LV} {S : List LV} (hP : PlanAt S id l f deps) (s : ByteArray) (K : Int × Unit → List LV → Option R) :
  G.steps_plan_find.fn k ((id + 1,0),s,()) S K = K (findI (findS l s),()) S := by
 unfold G.steps_plan_find.fn
 dsimp only
 rw [at_of hP.plan,plan_l]
 obtain ⟨c,huni,h⟩ := prog_bsearch hk hl hn s S (fun r3 S => ifB (!r3.2.1) (K ((-1 : Int),()) S) (K (r3.1,()) S))
 refine h.trans ?_
 dsimp only
 cases hc : (decide (c < l.length) && strEq (ruleName l c) s) with
 | true =>
  rw [Bool.and_eq_true,decide_eq_true_eq,strEq_iff] at hc
  rw [findS_of hl hc.1 hc.2]; rfl
 | false =>
  have : findS l s = none := by
   cases hf : findS l s with
   | none => rfl
   | some j =>
    obtain ⟨h1,h2⟩ := findS_some hf
    have := huni j h1 h2
    subst this
    rw [decide_eq_true h1,(strEq_iff _ _).2 h2] at hc; cases hc
  rw [this]; rfl
end
end Go.Lm
set_option maxRecDepth 100000
namespace Go.Lm
theorem set_getD (d : List Bool) (i j : Nat) (h : i < d.length) : (d.set i true).getD j false = (decide (i = j) || d.getD j false) := by
 simp only [List.getD_eq_getElem?_getD,List.getElem?_set]
 by_cases e : i = j
 ·subst e; simp [h]
 ·simp [e]
theorem rep_false (n i : Nat) : (List.replicate n false).getD i false = false := by
 simp only [List.getD_eq_getElem?_getD,List.getElem?_replicate]
 split <;> rfl
def Done (d : List Bool) (out : List Nat) : Prop := ∀ i,d.getD i false = true ↔ i ∈ out
structure Ordered (D : List (List Nat)) (inn : List Bool) (out : List Nat) : Prop where
 nodup : out.Nodup
 mem : ∀ i ∈ out,i < D.length ∧ inn.getD i false = true
 behind : ∀ m,m < out.length → ∀ j ∈ D.getD (out.getD m 0) [],j ∈ out.take m
theorem Ordered.snoc {D : List (List Nat)} {inn : List Bool} {out : List Nat} (h : Ordered D inn out) {i : Nat} (hi : i < D.length) (hn : i ∉ out) (hin : inn.getD i false = true) (hb : ∀ j ∈ D.getD i [],j ∈ out) : Ordered D inn (out ++ [i]) := by
 refine ⟨?_,fun j hj => ?_,fun m hm j hj => ?_⟩
 ·rw [List.nodup_append]
  refine ⟨h.nodup,by simp,fun a ha b hb => ?_⟩
  simp at hb
  subst hb
  exact fun e => hn (e ▸ ha)
 ·rcases List.mem_append.1 hj with h1 | h1
  ·exact h.mem j h1
  ·simp at h1; subst h1; exact ⟨hi,hin⟩
 ·rw [List.length_append] at hm
  simp at hm
  rcases Nat.lt_or_ge m out.length with h1 | h1
  ·rw [List.getD_eq_getElem?_getD (l := out ++ [i]),List.getElem?_append_left h1,← List.getD_eq_getElem?_getD] at hj
   rw [List.take_append_of_le_length (by omega)]
   exact h.behind m h1 j hj
  ·have : m = out.length := by omega
   subst this
   rw [List.getD_eq_getElem?_getD (l := out ++ [i]),List.getElem?_append_right (Nat.le_refl _)] at hj
   simp only [Nat.sub_self,List.getElem?_cons_zero,Option.getD_some] at hj
   rw [List.take_append_of_le_length (Nat.le_refl _),List.take_length]
   exact hb j hj
theorem goodAt_iff {D : List (List Nat)} {inn d : List Bool} {i : Nat} : goodAt D inn d i = true ↔ inn.getD i false = true ∧ d.getD i false = false ∧ ∀ j ∈ D.getD i [],d.getD j false = true := by
 unfold goodAt rdyS
 rw [Bool.and_eq_true,Bool.and_eq_true,Bool.not_eq_true',List.all_eq_true]
 exact ⟨fun h => ⟨h.1.1,h.1.2,h.2⟩,fun h => ⟨⟨h.1,h.2.1⟩,h.2.2⟩⟩
theorem ordS_ok (D : List (List Nat)) (inn : List Bool) : ∀ (f : Nat) (d : List Bool) (out : List Nat),d.length = D.length → d.count false < f → Done d out → Ordered D inn out →
  ∃ d',d'.length = D.length ∧ Done d' (ordS D inn f d out).1 ∧ Ordered D inn (ordS D inn f d out).1 ∧ nextS D inn d' = none ∧ (ordS D inn f d out).2 = !((List.range D.length).any (leftAt inn d'))
 | 0,d,out,hd,hf,_,_ => absurd hf (by omega)
 | f + 1,d,out,hd,hf,hD,hO => by
  unfold ordS
  cases hn : nextS D inn d with
  | none => exact ⟨d,hd,hD,hO,hn,rfl⟩
  | some i =>
   obtain ⟨hil,hg⟩ := nextS_some hn
   obtain ⟨g1,g2,g3⟩ := goodAt_iff.1 hg
   have hc := count_set (d := d) (by omega) g2
   refine ordS_ok D inn f (d.set i true) (out ++ [i]) (by simp [hd]) (by omega) (fun j => ?_) (hO.snoc hil (fun h => ?_) g1 fun j hj => (hD j).1 (g3 j hj))
   ·rw [set_getD d i j (by omega),Bool.or_eq_true,decide_eq_true_iff,hD j,List.mem_append,List.mem_singleton]
    exact ⟨fun h => h.elim (fun h => .inr h.symm) .inl,fun h => h.elim .inr (fun h => .inl h.symm)⟩
   ·rw [(hD i).2 h] at g2; cases g2
theorem orderedS_ok (D : List (List Nat)) (inn : List Bool) : ∃ d',d'.length = D.length ∧ Done d' (orderedS D inn).1 ∧ Ordered D inn (orderedS D inn).1 ∧ nextS D inn d' = none ∧ (orderedS D inn).2 = !((List.range D.length).any (leftAt inn d')) :=
 ordS_ok D inn (D.length + 1) (List.replicate D.length false) [] (by simp) (by simp [List.count_replicate]) (fun i => by rw [rep_false]; simp) ⟨List.nodup_nil,fun i h => by simp at h,fun m h => absurd h (by simp)⟩
theorem orderedS_ordered (D : List (List Nat)) (inn : List Bool) : Ordered D inn (orderedS D inn).1 := by
 obtain ⟨d',_,_,h,_⟩ := orderedS_ok D inn
 exact h
theorem orderedS_all {D : List (List Nat)} {inn : List Bool} (h : (orderedS D inn).2 = true) : ∀ i,i < D.length → inn.getD i false = true → i ∈ (orderedS D inn).1 := by
 obtain ⟨d',h1,h2,h3,h4,h5⟩ := orderedS_ok D inn
 intro i hi hin
 rw [h5,Bool.not_eq_true'] at h
 rw [List.any_eq_false] at h
 have := h i (List.mem_range.2 hi)
 unfold leftAt at this
 rw [hin,Bool.true_and] at this
 refine (h2 i).1 ?_
 simpa using this
theorem orderedS_closed {D : List (List Nat)} (hs : Small D) (hall : (orderedS D (List.replicate D.length true)).2 = true) {inn : List Bool} (hc : ∀ i,i < D.length → inn.getD i false = true → ∀ j ∈ D.getD i [],inn.getD j false = true) : (orderedS D inn).2 = true := by
 obtain ⟨d',h1,h2,h3,h4,h5⟩ := orderedS_ok D inn
 have hO := orderedS_ordered D (List.replicate D.length true)
 have hA := orderedS_all hall
 rw [h5,Bool.not_eq_true',List.any_eq_false]
 have hstuck : ∀ i,i < D.length → inn.getD i false = true → d'.getD i false = false → ∃ j ∈ D.getD i [],d'.getD j false = false := by
  intro i hi hin hd
  unfold nextS at h4
  rw [List.find?_eq_none] at h4
  have h6 := h4 i (List.mem_range.2 hi)
  rw [goodAt_iff] at h6
  refine Classical.byContradiction fun hno => h6 ⟨hin,hd,fun j hj => ?_⟩
  cases hb : d'.getD j false with
  | true => rfl
  | false => exact absurd ⟨j,hj,hb⟩ hno
 have key : ∀ m,∀ i,m < (orderedS D (List.replicate D.length true)).1.length → (orderedS D (List.replicate D.length true)).1.getD m 0 = i → inn.getD i false = true → d'.getD i false = true := by
  intro m
  induction m using Nat.strongRecOn with
  | _ m ih =>
   intro i hm he hin
   cases hd : d'.getD i false with
   | true => rfl
   | false =>
    have hi : i < D.length := by
     rw [← he]
     exact (hO.mem _ (by rw [List.getD_eq_getElem?_getD,List.getElem?_eq_getElem hm]; exact List.getElem_mem hm)).1
    obtain ⟨j,hj,hdj⟩ := hstuck i hi hin hd
    have hb := hO.behind m hm j (by rw [he]; exact hj)
    obtain ⟨a,ha,ea⟩ := List.mem_iff_getElem.1 hb
    rw [List.length_take] at ha
    rw [List.getElem_take] at ea
    have := ih a (by omega) j (by omega) (by rw [List.getD_eq_getElem?_getD,List.getElem?_eq_getElem (by omega)]; exact ea) (hc i hi hin j hj)
    rw [this] at hdj; cases hdj
 intro i hi hl
 have hi := List.mem_range.1 hi
 unfold leftAt at hl
 rw [Bool.and_eq_true,Bool.not_eq_true'] at hl
 have hm := hA i hi (allTrue _ _ hi)
 obtain ⟨a,ha,ea⟩ := List.mem_iff_getElem.1 hm
 have := key a i ha (by rw [List.getD_eq_getElem?_getD,List.getElem?_eq_getElem ha]; exact ea) hl.1
 rw [this] at hl; cases hl.2
inductive Reach (D : List (List Nat)) (st : List Nat) : Nat → Prop
 | start {i : Nat} : i ∈ st → Reach D st i
 | need {i j : Nat} : Reach D st i → j ∈ D.getD i [] → Reach D st j
structure Marks (D : List (List Nat)) (st : List Nat) (d : List Bool) : Prop where
 len : d.length = D.length
 iff : ∀ i,d.getD i false = true ↔ Reach D st i
theorem Marks.uniq {D : List (List Nat)} {st : List Nat} {d d' : List Bool} (h : Marks D st d) (h' : Marks D st d') : d = d' := by
 apply List.ext_getElem (by rw [h.len,h'.len])
 intro i h1 h2
 have e1 : d.getD i false = d[i] := by rw [List.getD_eq_getElem?_getD,List.getElem?_eq_getElem h1]; rfl
 have e2 : d'.getD i false = d'[i] := by rw [List.getD_eq_getElem?_getD,List.getElem?_eq_getElem h2]; rfl
 rw [← e1,← e2,Bool.eq_iff_iff,h.iff,h'.iff]
theorem Marks.closed {D : List (List Nat)} {st : List Nat} {d : List Bool} (h : Marks D st d) : ∀ i,i < D.length → d.getD i false = true → ∀ j ∈ D.getD i [],d.getD j false = true :=
 fun i _ hi j hj => (h.iff j).2 (.need ((h.iff i).1 hi) hj)
theorem Marks.of {D : List (List Nat)} {st : List Nat} {d : List Bool} (hl : d.length = D.length) (hr : ∀ i,d.getD i false = true → Reach D st i) (hs : ∀ i ∈ st,d.getD i false = true) (hc : ∀ i,d.getD i false = true → ∀ j ∈ D.getD i [],d.getD j false = true) : Marks D st d := by
 refine ⟨hl,fun i => ⟨hr i,fun h => ?_⟩⟩
 induction h with
 | start h => exact hs _ h
 | need _ hj ih => exact hc _ ih _ hj
end Go.Lm
set_option maxRecDepth 100000
namespace Go.Lm
section
variable {R : Type}
def leftI (D : List (List Nat)) (inn d : List Bool) (i : Nat) : Int := cond (inn.getD i false) (leftD D d i) 0
theorem leftI_in {D : List (List Nat)} {inn d : List Bool} {i : Nat} (h : inn.getD i false = true) : leftI D inn d i = leftD D d i := by unfold leftI; rw [h]; rfl
theorem leftI_out {D : List (List Nat)} {inn d : List Bool} {i : Nat} (h : inn.getD i false = false) : leftI D inn d i = 0 := by unfold leftI; rw [h]; rfl
def readyI (inn : List Bool) (g : Nat → Int) (d : List Bool) (i : Nat) : Bool := readyP g d i && inn.getD i false
theorem readyI_good (D : List (List Nat)) (inn d : List Bool) (i : Nat) (hi : i < D.length) : readyI inn (leftI D inn d) d i = goodAt D inn d i := by
 have h := ready_good D d i hi
 unfold readyI goodAt
 unfold readyP goodAt at h
 rw [allTrue _ _ hi,Bool.true_and] at h
 unfold readyP
 cases hin : inn.getD i false with
 | false => rw [Bool.and_false,Bool.false_and,Bool.false_and]
 | true =>
  rw [leftI_in hin,Bool.and_true,Bool.true_and]
  exact h
theorem users_has (D : List (List Nat)) (inn : List Bool) (i k : Nat) (hi : i < D.length) : (usersTo D inn D.length k).contains i = (inn.getD i false && (D.getD i []).contains k) := by
 unfold usersTo
 rw [Bool.eq_iff_iff,List.contains_iff_mem,List.mem_filter,List.mem_range]
 exact ⟨fun h => h.2,fun h => ⟨hi,h⟩⟩
theorem leftI_done (D : List (List Nat)) (hD : Rows D) (inn d : List Bool) (k : Nat) (hk : k < d.length) (hd : d.getD k false = false) (i : Nat) (hi : i < D.length) :
  leftI D inn d i - cond ((usersTo D inn D.length k).contains i) 1 0 = leftI D inn (d.set k true) i := by
 have h := filter_done d k hk hd (D.getD i []) (hD.get i hi)
 rw [users_has D inn i k hi]
 cases hin : inn.getD i false with
 | false => rw [leftI_out hin,leftI_out hin]; rfl
 | true =>
  rw [leftI_in hin,leftI_in hin,Bool.true_and]
  unfold leftD
  rw [← h]
  cases (D.getD i []).contains k <;> simp
theorem leftI_le (D : List (List Nat)) (hD : Rows D) (inn d : List Bool) (i : Nat) : -1000 ≤ leftI D inn d i ∧ leftI D inn d i ≤ 1000 := by
 have h := leftD_le D hD d i
 cases hin : inn.getD i false
 ·rw [leftI_out hin]; exact ⟨by decide,by decide⟩
 ·rw [leftI_in hin]; exact h
theorem leftTo_no (D : List (List Nat)) (inn : List Bool) (t : Nat) (h : inn.getD t false = false) : leftTo D inn (t + 1) = leftTo D inn t := by
 funext j
 unfold leftTo
 by_cases e : j = t
 ·subst e
  rw [h,Bool.and_false,Bool.and_false]
 ·by_cases h1 : j < t
  ·rw [decide_eq_true h1,decide_eq_true (by omega : j < t + 1)]
  ·rw [decide_eq_false h1,decide_eq_false (by omega : ¬ j < t + 1)]
theorem usersTo_no (D : List (List Nat)) (inn : List Bool) (t : Nat) (h : inn.getD t false = false) : usersTo D inn (t + 1) = usersTo D inn t := by
 funext k
 rw [usersTo_succ,h,Bool.false_and,cond_false,List.append_nil]
abbrev OoT := (Nat × Nat) × (Nat × Nat × Nat) × (Nat × Nat × Nat) × (Nat × Nat × Nat) × Int × LL × Int × Int × Unit
theorem oo_b1 {k : Nat} (hk : Many k) (D : List (List Nat)) (hD : Rows D) (inn : List Bool) (pl : Nat × Nat) (si li : Nat × Nat × Nat) (ui i : Nat) (hi : i < D.length) (many : Int) (rows : LL) (n ii : Int) (S : List LV) (hS : RowsObj S ui D.length (usersTo D inn i)) :
  ∃ S',(RowsObj S' ui D.length (fun k => usersIn D inn i (D.getD i []).length k) ∧ Keeps S S' [ui]) ∧
   ∀ J : OoT → List LV → Option R,rounds (G.steps_plan_order_osl.b1 k J) k (pl,si,li,(ui,0,D.length),many,(i : Int),rows,n,ii,ints (D.getD i []),((D.getD i []).length : Int),0,()) S = J (pl,si,li,(ui,0,D.length),many,rows,n,ii,()) S' := by
 have hk' := hk
 unfold Many at hk'
 have hsm := hD.small.get i hi
 refine loop_all (R := R) (b := fun J => G.steps_plan_order_osl.b1 k J) (x := fun t => (pl,si,li,(ui,0,D.length),many,(i : Int),rows,n,ii,ints (D.getD i []),((D.getD i []).length : Int),(t : Int),())) (n := (D.getD i []).length)
  (Inv := fun t S1 => RowsObj S1 ui D.length (fun k => usersIn D inn i t k) ∧ Keeps S S1 [ui])
  (out := fun (J : OoT → List LV → Option R) S' => J (pl,si,li,(ui,0,D.length),many,rows,n,ii,()) S')
  (fun t S1 ht hI => ?_) (fun J rec S1 hI => ?_) k (by omega) S ⟨?_,Keeps.refl _ _⟩
 ·obtain ⟨h1,h2⟩ := hI
  have hkl : (D.getD i []).getD t 0 < D.length := hsm.2 _ (nat_mem _ t ht)
  have hlen : (usersIn D inn i t ((D.getD i []).getD t 0)).length ≤ 500 := by
   have := usersTo_len D inn i ((D.getD i []).getD t 0)
   have h500 := hD.small.1
   unfold usersIn
   rw [List.length_append]
   have h1 : ∀ b : Bool,(cond b [i] []).length ≤ 1 := fun b => by cases b <;> simp
   have h1 := h1 (((D.getD i []).take t).contains ((D.getD i []).getD t 0))
   omega
  refine ⟨S1.set ui (rowsO D.length (updF (fun k => usersIn D inn i t k) ((D.getD i []).getD t 0) (usersIn D inn i t ((D.getD i []).getD t 0) ++ [i]))),⟨?_,h2.trans (Keeps.set _ _ _)⟩,fun J rec => ?_⟩
  ·have e : (updF (fun k => usersIn D inn i t k) ((D.getD i []).getD t 0) (usersIn D inn i t ((D.getD i []).getD t 0) ++ [i])) = fun k => usersIn D inn i (t + 1) k := by
    funext k
    unfold updF usersIn
    rw [take_contains _ t ht]
    by_cases e : k = (D.getD i []).getD t 0
    ·subst e
     rw [nodup_take (hD.get i hi) t ht]; simp
    ·have e0 : (k == (D.getD i []).getD t 0) = false := by simpa using e
     rw [e0,Bool.or_false]; rfl
   show RowsObj _ _ _ (fun k => usersIn D inn i (t + 1) k)
   rw [← e]
   exact RowsObj.of _ _ _ _ (lt_get h1 (by simp))
  ·unfold G.steps_plan_order_osl.b1 G.steps_plan_order_osl.q4 G.steps_plan_order_osl.q5 G.steps_plan_order_osl.q6
   dsimp only
   rw [lt_nat,ifB_pos ht,idxL_nat (by rw [ints_len]; exact ht),ints_get _ t ht,leaf_int]
   refine (RowsObj.app h1 hkl i hlen _).trans ?_
   rw [wrap_succ (by omega)]
 ·unfold G.steps_plan_order_osl.b1 G.steps_plan_order_osl.q4
  dsimp only
  rw [lt_nat,ifB_neg (Nat.lt_irrefl _)]
 ·have e : (fun k => usersIn D inn i 0 k) = usersTo D inn i := by
   funext k
   unfold usersIn
   simp
  rw [e]; exact hS
abbrev Oo0 := (Nat × Nat) × (Nat × Nat × Nat) × (Nat × Nat × Nat) × (Nat × Nat × Nat) × Int × Unit
theorem oo_b0 {k : Nat} (hk : Many k) (D : List (List Nat)) (hD : Rows D) (inn : List Bool) (hin : inn.length = D.length) (pl : Nat × Nat) (si li ui : Nat) (hne : li ≠ ui) (hs1 : si ≠ li) (hs2 : si ≠ ui) (S : List LV) (hB : BoolsAt S si inn) (hL : IntsObj S li D.length (leftTo D inn 0)) (hU : RowsObj S ui D.length (usersTo D inn 0)) :
  ∃ S',(IntsObj S' li D.length (leftTo D inn D.length) ∧ RowsObj S' ui D.length (usersTo D inn D.length) ∧ Keeps S S' [li,ui]) ∧
   ∀ J : Oo0 → List LV → Option R,rounds (G.steps_plan_order_osl.b0 k J) k (pl,(si,0,D.length),(li,0,D.length),(ui,0,D.length),0,D.map rowS,(D.length : Int),0,()) S = J (pl,(si,0,D.length),(li,0,D.length),(ui,0,D.length),(countTo inn D.length : Nat),()) S' := by
 have hk' := hk
 unfold Many at hk'
 have h500 := hD.small.1
 refine loop_all (R := R) (b := fun J => G.steps_plan_order_osl.b0 k J) (x := fun t => (pl,(si,0,D.length),(li,0,D.length),(ui,0,D.length),((countTo inn t : Nat) : Int),D.map rowS,(D.length : Int),(t : Int),())) (n := D.length)
  (Inv := fun t S1 => IntsObj S1 li D.length (leftTo D inn t) ∧ RowsObj S1 ui D.length (usersTo D inn t) ∧ Keeps S S1 [li,ui])
  (out := fun (J : Oo0 → List LV → Option R) S' => J (pl,(si,0,D.length),(li,0,D.length),(ui,0,D.length),(countTo inn D.length : Nat),()) S')
  (fun t S1 ht hI => ?_) (fun J rec S1 hI => ?_) k (by omega) S ⟨hL,hU,Keeps.refl _ _⟩
 ·obtain ⟨h1,h2,h3⟩ := hI
  have hB1 : BoolsAt S1 si inn := h3.get hB (by simp) (by simp; exact ⟨hs1,hs2⟩)
  have hcl := countTo_le inn t
  cases hb : inn.getD t false with
  | false =>
   refine ⟨S1,⟨by rw [leftTo_no D inn t hb]; exact h1,by rw [usersTo_no D inn t hb]; exact h2,h3⟩,fun J rec => ?_⟩
   unfold G.steps_plan_order_osl.b0 G.steps_plan_order_osl.q1
   dsimp only
   rw [lt_nat,ifB_pos ht,row_at D t ht,show (false == true) = false from rfl,ifB_false,idxN_nat ht,hB1.ld (by omega),hb,ifB_false,wrap_succ (by omega),countTo_succ,hb]
   rfl
  | true =>
   have hK1 : Keeps S1 (S1.set li (intsO D.length (updF (leftTo D inn t) t (((D.getD t []).length : Nat) : Int)))) [li] := Keeps.set _ _ _
   have hL1 := IntsObj.of S1 li D.length (updF (leftTo D inn t) t (((D.getD t []).length : Nat) : Int)) (lt_get h1 (by simp))
   have hU1 : RowsObj (S1.set li (intsO D.length (updF (leftTo D inn t) t (((D.getD t []).length : Nat) : Int)))) ui D.length (usersTo D inn t) := hK1.get h2 (by simp) (by simp; exact Ne.symm hne)
   obtain ⟨S2,⟨h4,h5⟩,h6⟩ := oo_b1 (R := R) hk D hD inn pl (si,0,D.length) (li,0,D.length) ui t ht ((countTo inn t + 1 : Nat) : Int) (D.map rowS) (D.length : Int) (t : Int) _ hU1
   refine ⟨S2,⟨?_,?_,h3.trans ((hK1.weak (fun m hm => by simp at hm; simp [hm])).trans (h5.weak (fun m hm => by simp at hm; simp [hm])))⟩,fun J rec => ?_⟩
   ·rw [← left_upd D _ t hb]
    exact h5.get hL1 (by simp) (by simp; exact hne)
   ·rw [← users_full D _ t hb]; exact h4
   ·unfold G.steps_plan_order_osl.b0 G.steps_plan_order_osl.q1 G.steps_plan_order_osl.q2 G.steps_plan_order_osl.q3 G.steps_plan_order_osl.q0
    dsimp only
    rw [lt_nat,ifB_pos ht,row_at D t ht,show (false == true) = false from rfl,ifB_false,idxN_nat ht,hB1.ld (by omega),hb,ifB_true,ints_len,idxN_nat ht]
    refine (IntsObj.st h1 ht _ _).trans ?_
    rw [wrap_succ (by omega)]
    refine (h6 _).trans ?_
    dsimp only
    rw [wrap_succ (by omega),countTo_succ,hb]; rfl
 ·unfold G.steps_plan_order_osl.b0
  dsimp only
  rw [lt_nat,ifB_neg (Nat.lt_irrefl _)]
abbrev OzT := (Nat × Nat × Nat) × (Nat × Nat × Nat) × (Nat × Nat × Nat) × Int × (Nat × Nat × Nat) × LL × Unit
theorem oo_b4 {k : Nat} (hk : Many k) (n : Nat) (ul : List Nat) (hul : ul.length ≤ 500) (hnd : ul.Nodup) (hlt : ∀ u ∈ ul,u < n) (si : Nat × Nat × Nat) (li : Nat) (ui : Nat × Nat × Nat) (many : Int) (di : Nat × Nat × Nat) (out : LL) (g : Nat → Int) (hg : ∀ i,-1000 ≤ g i ∧ g i ≤ 1000) (S : List LV) (hS : IntsObj S li n g) :
  ∃ S',(IntsObj S' li n (fun i => g i - cond (ul.contains i) 1 0) ∧ Keeps S S' [li]) ∧
   ∀ J : OzT → List LV → Option R,rounds (G.steps_plan_order_osl.b4 k J) k (si,(li,0,n),ui,many,di,out,ints ul,(ul.length : Int),0,()) S = J (si,(li,0,n),ui,many,di,out,()) S' := by
 have hk' := hk
 unfold Many at hk'
 have hl := loop_all (R := R) (b := fun J => G.steps_plan_order_osl.b4 k J) (x := fun t => (si,(li,0,n),ui,many,di,out,ints ul,(ul.length : Int),(t : Int),())) (n := ul.length)
  (Inv := fun t S1 => IntsObj S1 li n (fun i => g i - cond ((ul.take t).contains i) 1 0) ∧ Keeps S S1 [li])
  (out := fun (J : OzT → List LV → Option R) S' => J (si,(li,0,n),ui,many,di,out,()) S')
  (fun t S1 ht hI => ?_) (fun J rec S1 hI => ?_) k (by omega) S ⟨hS.congr (fun i _ => by simp),Keeps.refl _ _⟩
 ·obtain ⟨S',⟨h1,h2⟩,h3⟩ := hl
  rw [List.take_length] at h1
  exact ⟨S',⟨h1,h2⟩,h3⟩
 ·obtain ⟨h1,h2⟩ := hI
  have hu : ul.getD t 0 < n := hlt _ (nat_mem _ t ht)
  have hg1 := hg (ul.getD t 0)
  have h0 : g (ul.getD t 0) - cond ((ul.take t).contains (ul.getD t 0)) 1 0 = g (ul.getD t 0) := by
   rw [nodup_take hnd t ht,cond_false,Int.sub_zero]
  refine ⟨S1.set li (intsO n (updF (fun i => g i - cond ((ul.take t).contains i) 1 0) (ul.getD t 0) (g (ul.getD t 0) - 1))),⟨?_,h2.trans (Keeps.set _ _ _)⟩,fun J rec => ?_⟩
  ·refine (IntsObj.of _ _ _ _ (lt_get h1 (by simp))).congr fun i _ => ?_
   unfold updF
   rw [take_contains _ t ht]
   by_cases e : i = ul.getD t 0
   ·subst e; simp
   ·have e0 : (i == ul.getD t 0) = false := by simpa using e
    rw [e0,Bool.or_false]; rfl
  ·unfold G.steps_plan_order_osl.b4
   dsimp only
   rw [lt_nat,ifB_pos ht,idxL_nat (by rw [ints_len]; exact ht),ints_get _ t ht,leaf_int,idxN_nat hu,IntsObj.ld h1 hu,h0,idxN_nat hu]
   refine (IntsObj.st h1 hu _ _).trans ?_
   rw [wrap_id (n := g (ul.getD t 0) - 1) (by omega) (by omega),wrap_succ (by omega)]
 ·unfold G.steps_plan_order_osl.b4
  dsimp only
  rw [lt_nat,ifB_neg (Nat.lt_irrefl _)]
theorem oo_b3 {k : Nat} (hk : Many k) (n : Nat) (hn : n ≤ 500) (si li di : Nat) (ui : Nat × Nat × Nat) (many : Int) (out : LL) (g : Nat → Int) (inn d : List Bool) (hi : inn.length = n) (hd : d.length = n) (S : List LV) (hI : BoolsAt S si inn) (hS : IntsObj S li n g) (hB : BoolsAt S di d) (J : (Nat × Nat × Nat) × (Nat × Nat × Nat) × (Nat × Nat × Nat) × Int × (Nat × Nat × Nat) × LL × Int × Unit → List LV → Option R) :
  rounds (G.steps_plan_order_osl.b3 k J) k ((si,0,n),(li,0,n),ui,many,(di,0,n),out,0,()) S = J ((si,0,n),(li,0,n),ui,many,(di,0,n),out,((((List.range n).find? (readyI inn g d)).getD n : Nat) : Int),()) S := by
 unfold Many at hk
 refine (rounds_scan0 (fun t => ((si,0,n),(li,0,n),ui,many,(di,0,n),out,(t : Int),())) S n k (fun t => cond (readyI inn g d t) (some (J ((si,0,n),(li,0,n),ui,many,(di,0,n),out,(t : Int),()) S)) none) (J ((si,0,n),(li,0,n),ui,many,(di,0,n),out,(n : Int),()) S) (fun rec t ht => ?_) (fun rec => ?_) (by omega)).trans ?_
 ·unfold G.steps_plan_order_osl.b3 G.steps_plan_order_osl.q7
  dsimp only
  rw [lt_nat,ifB_pos ht,idxN_nat ht,BoolsAt.ld hB (by omega)]
  unfold readyI readyP
  cases d.getD t false with
  | true =>
   rw [ifB_true,wrap_succ (by omega)]; rfl
  | false =>
   rw [ifB_false,idxN_nat ht,IntsObj.ld hS ht]
   by_cases hg : g t > 0
   ·rw [decide_eq_true hg,ifB_true,wrap_succ (by omega),decide_eq_false (by omega : ¬ g t ≤ 0)]; rfl
   ·rw [decide_eq_false hg,ifB_false,decide_eq_true (by omega : g t ≤ 0),show (!(false == true)) = true from rfl,ifB_true,idxN_nat ht,BoolsAt.ld hI (by omega)]
    cases inn.getD t false with
    | true => rfl
    | false => rw [Bool.not_false,ifB_true,wrap_succ (by omega)]; rfl
 ·unfold G.steps_plan_order_osl.b3
  dsimp only
  rw [lt_nat,ifB_neg (Nat.lt_irrefl _)]
 ·rw [scan_find (readyI inn g d) (fun t => J ((si,0,n),(li,0,n),ui,many,(di,0,n),out,(t : Int),()) S) n n 0 (by omega),← List.range_eq_range']
end
end Go.Lm
set_option maxRecDepth 100000
namespace Go.Lm
section
variable {R : Type}
def pend (inn d : List Bool) (n : Nat) : Nat := ((List.range n).filter (leftAt inn d)).length
theorem pend_succ (inn d : List Bool) (n : Nat) : pend inn d (n + 1) = pend inn d n + cond (leftAt inn d n) 1 0 := by
 unfold pend
 rw [List.range_succ,List.filter_append,List.length_append,List.filter_cons]
 cases leftAt inn d n <;> simp
theorem left_set (inn d : List Bool) (i j : Nat) (hi : i < d.length) : leftAt inn (d.set i true) j = (!(decide (i = j)) && leftAt inn d j) := by
 unfold leftAt
 rw [set_getD d i j hi]
 cases decide (i = j) <;> cases inn.getD j false <;> rfl
theorem pend_set {inn d : List Bool} {i : Nat} (hi : i < d.length) (h : leftAt inn d i = true) : ∀ n,pend inn (d.set i true) n + cond (decide (i < n)) 1 0 = pend inn d n
 | 0 => rfl
 | n + 1 => by
  have ih := pend_set hi h n
  rw [pend_succ,pend_succ,left_set inn d i n hi]
  rcases Nat.lt_trichotomy i n with h1 | h1 | h1
  ·rw [decide_eq_true h1] at ih
   rw [decide_eq_true (by omega : i < n + 1),decide_eq_false (by omega : ¬ i = n),Bool.not_false,Bool.true_and,← ih]
   omega
  ·subst h1
   rw [decide_eq_false (Nat.lt_irrefl i)] at ih
   rw [decide_eq_true (Nat.lt_succ_self i),decide_eq_true rfl,h,Bool.not_true,Bool.false_and,← ih]
  ·rw [decide_eq_false (by omega : ¬ i < n)] at ih
   rw [decide_eq_false (by omega : ¬ i < n + 1),decide_eq_false (by omega : ¬ i = n),Bool.not_false,Bool.true_and,← ih]
   rfl
theorem pend_any {inn d : List Bool} {n : Nat} : (List.range n).any (leftAt inn d) = decide (0 < pend inn d n) := by
 rw [Bool.eq_iff_iff,List.any_eq_true,decide_eq_true_iff]
 unfold pend
 rw [List.length_pos_iff_exists_mem]
 exact ⟨fun ⟨x,h1,h2⟩ => ⟨x,List.mem_filter.2 ⟨h1,h2⟩⟩,fun ⟨x,h⟩ => ⟨x,(List.mem_filter.1 h).1,(List.mem_filter.1 h).2⟩⟩
theorem good_left {D : List (List Nat)} {inn d : List Bool} {i : Nat} (h : goodAt D inn d i = true) : leftAt inn d i = true := by
 obtain ⟨h1,h2,_⟩ := goodAt_iff.1 h
 unfold leftAt
 rw [h1,h2]; rfl
theorem oo_b2 {k : Nat} (hk : Many k) (D : List (List Nat)) (hD : Rows D) (inn : List Bool) (hin : inn.length = D.length) (si li ui di : Nat) (h1 : li ≠ ui) (h2 : li ≠ di) (h3 : ui ≠ di) (h4 : si ≠ li) (h5 : si ≠ di) :
  ∀ (f : Nat) (d : List Bool) (out : List Nat) (fuel : Nat) (S : List LV),d.length = D.length → d.count false < f → out.length + pend inn d D.length = countTo inn D.length → f ≤ fuel →
   BoolsAt S si inn → IntsObj S li D.length (leftI D inn d) → RowsObj S ui D.length (usersTo D inn D.length) → BoolsAt S di d →
   ∃ S',Keeps S S' [li,di] ∧ ∀ q : (LL × Unit → List LV → Option R) × (LL × Bool × Unit → List LV → Option R),
    rounds (G.steps_plan_order_osl.b2 k q.1 q.2) fuel ((si,0,D.length),(li,0,D.length),(ui,0,D.length),((countTo inn D.length : Nat) : Int),(di,0,D.length),ints out,()) S =
     cond (ordS D inn f d out).2 (q.1 (ints (ordS D inn f d out).1,()) S') (q.2 ([],false,()) S')
 | 0,d,out,fuel,S,hd,hf,ho,hfu,hI,hL,hU,hB => absurd hf (by omega)
 | f + 1,d,out,fuel,S,hd,hf,ho,hfu,hI,hL,hU,hB => by
  obtain ⟨m,rfl⟩ : ∃ m,fuel = m + 1 := ⟨fuel - 1,by omega⟩
  have hlen := hD.small.1
  have hcl := countTo_le inn D.length
  have hnx : (List.range D.length).find? (readyI inn (leftI D inn d) d) = nextS D inn d := by
   unfold nextS
   exact find_congr _ fun x hx => readyI_good D inn d x (List.mem_range.1 hx)
  have hb3 := fun J => oo_b3 (R := R) hk D.length hlen si li di (ui,0,D.length) ((countTo inn D.length : Nat) : Int) (ints out) (leftI D inn d) inn d hin hd S hI hL hB J
  rw [hnx] at hb3
  unfold ordS
  rw [pend_any]
  rcases Nat.eq_zero_or_pos (pend inn d D.length) with hc | hc
  ·have hn : nextS D inn d = none := by
    cases hn : nextS D inn d with
    | none => rfl
    | some i =>
     obtain ⟨hil,hg⟩ := nextS_some hn
     have : (List.range D.length).any (leftAt inn d) = true := List.any_eq_true.2 ⟨i,List.mem_range.2 hil,good_left hg⟩
     rw [pend_any,hc] at this; cases this
   rw [hn,hc]
   refine ⟨S,Keeps.refl _ _,fun q => ?_⟩
   rw [rounds_succ]
   unfold G.steps_plan_order_osl.b2
   dsimp only
   rw [ints_len,lt_nat,ifB_neg (by omega)]
   rfl
  ·have hlt : out.length < countTo inn D.length := by omega
   cases hn : nextS D inn d with
   | none =>
    rw [decide_eq_true hc]
    rw [hn] at hb3
    refine ⟨S,Keeps.refl _ _,fun q => ?_⟩
    rw [rounds_succ]
    unfold G.steps_plan_order_osl.b2
    dsimp only
    rw [ints_len,lt_nat,ifB_pos hlt]
    refine (hb3 _).trans ?_
    dsimp only [Option.getD_none]
    rw [show ((D.length : Int) == (D.length : Int)) = true from beq_self_eq_true _,ifB_true]
    rfl
   | some i =>
    obtain ⟨hil,hg⟩ := nextS_some hn
    have hdf : d.getD i false = false := (goodAt_iff.1 hg).2.1
    have hcs := count_set (d := d) (by omega) hdf
    have hps := pend_set (d := d) (by omega) (good_left hg) D.length
    rw [decide_eq_true hil,cond_true] at hps
    rw [hn] at hb3
    let S1 := S.set di (.obj 4 (bools (d.set i true)))
    have hK1 : Keeps S S1 [di] := Keeps.set _ _ _
    have hI1 : BoolsAt S1 si inn := hK1.get hI (by simp) (by simp; exact h5)
    have hL1 : IntsObj S1 li D.length (leftI D inn d) := hK1.get hL (by simp) (by simp; exact h2)
    have hU1 : RowsObj S1 ui D.length (usersTo D inn D.length) := hK1.get hU (by simp) (by simp; exact h3)
    have hB1 : BoolsAt S1 di (d.set i true) := hB.set _
    have hul := usersTo_len D inn D.length i
    have hlu : ∀ u ∈ usersTo D inn D.length i,u < D.length := fun u hu => List.mem_range.1 (List.mem_filter.1 hu).1
    obtain ⟨S2,⟨hL2,hK2⟩,hb4⟩ := oo_b4 (R := R) hk D.length (usersTo D inn D.length i) (by omega) (List.nodup_range.sublist List.filter_sublist) hlu (si,0,D.length) li (ui,0,D.length) ((countTo inn D.length : Nat) : Int) (di,0,D.length) (ints (out ++ [i])) (leftI D inn d) (fun j => leftI_le D hD inn d j) S1 hL1
    have hL3 : IntsObj S2 li D.length (leftI D inn (d.set i true)) := hL2.congr fun j hj => leftI_done D hD inn d i (by omega) hdf j hj
    have hI2 : BoolsAt S2 si inn := hK2.get hI1 (by simp) (by simp; exact h4)
    have hU2 : RowsObj S2 ui D.length (usersTo D inn D.length) := hK2.get hU1 (by simp) (by simp; exact Ne.symm h1)
    have hB2 : BoolsAt S2 di (d.set i true) := hK2.get hB1 (by simp) (by simp; exact Ne.symm h2)
    obtain ⟨S3,hK3,hr⟩ := oo_b2 hk D hD inn hin si li ui di h1 h2 h3 h4 h5 f (d.set i true) (out ++ [i]) m S2 (by simp [hd]) (by omega) (by simp; omega) (by omega) hI2 hL3 hU2 hB2
    refine ⟨S3,((hK1.weak (fun m hm => by simp at hm; simp [hm])).trans (hK2.weak (fun m hm => by simp at hm; simp [hm]))).trans hK3,fun q => ?_⟩
    rw [rounds_succ]
    unfold G.steps_plan_order_osl.b2
    dsimp only
    rw [ints_len,lt_nat,ifB_pos hlt]
    refine (hb3 _).trans ?_
    dsimp only [Option.getD_some]
    rw [show ((i : Int) == (D.length : Int)) = false by simp; omega,ifB_false,idxN_nat hil,hB.st (by omega),app_one (by rw [ints_len]; omega) (by rw [ints_len]; omega),ints_snoc,idxN_nat hil]
    refine (RowsObj.ld hU1 hil _).trans ?_
    rw [ints_len]
    refine (hb4 _).trans ?_
    exact hr q
theorem leftI_zero (D : List (List Nat)) (inn : List Bool) (n i : Nat) (hi : i < D.length) : leftTo D inn D.length i = leftI D inn (List.replicate n false) i := by
 have h := left_zero D n i hi
 unfold leftTo at h ⊢
 rw [decide_eq_true hi,allTrue _ _ hi] at h
 rw [decide_eq_true hi,Bool.true_and]
 unfold leftI
 cases inn.getD i false with
 | false => rfl
 | true => exact h
theorem pend_zero (inn : List Bool) (m : Nat) : ∀ n,pend inn (List.replicate m false) n = countTo inn n
 | 0 => rfl
 | n + 1 => by
  rw [pend_succ,countTo_succ,pend_zero inn m n]
  congr 1
  unfold leftAt
  rw [rep_false,Bool.not_false,Bool.and_true]
theorem order_some {k : Nat} (hk : Many k) (l : List Rule) (id : Nat) (f : ByteArray → Option Nat) (D : List (List Nat)) (hD : Rows D) (hl : D.length = l.length) (S : List LV) (hP : PlanAt S id l f (depsV D)) (si : Nat) (inn : List Bool) (hin : inn.length = D.length) (hI : BoolsAt S si inn) :
  ∃ S',Keeps S S' [] ∧ ∀ K : LL × Bool × Unit → List LV → Option R,G.steps_plan_order_osl.fn k ((id + 1,0),(si,0,D.length),()) S K =
   cond (orderedS D inn).2 (K (ints (orderedS D inn).1,true,()) S') (K ([],false,()) S') := by
 have hk' := hk
 unfold Many at hk'
 have h500 := hD.small.1
 have hid := lt_get hP.plan (by simp)
 have hsi : si < S.length := lt_get hI (by simp)
 let S1 := S ++ [intsO D.length (fun _ => 0)]
 let S2 := S1 ++ [rowsO D.length (fun _ => [])]
 have hK1 : Keeps S S1 [] := Keeps.app _ _ _
 have hK2 : Keeps S1 S2 [] := Keeps.app _ _ _
 have hl1 : S1.length = S.length + 1 := by simp [S1]
 have hl2 : S2.length = S.length + 2 := by simp [S2,hl1]
 have hI2 : BoolsAt S2 si inn := (hK1.trans hK2).get hI (by simp) (by simp)
 have hL : IntsObj S2 S.length D.length (leftTo D inn 0) := by
  have h : IntsObj S2 S.length D.length (fun _ => 0) := get_app _ (get_end _ _) (by simp [intsO])
  exact h.congr fun i _ => by simp [leftTo]
 have hU : RowsObj S2 S1.length D.length (usersTo D inn 0) := by
  have h : RowsObj S2 S1.length D.length (fun _ => []) := get_end _ _
  exact h
 obtain ⟨S3,⟨hL3,hU3,hK3⟩,hb0⟩ := oo_b0 (R := R) hk D hD inn hin (id + 1,0) si S.length S1.length (by omega) (by omega) (by omega) S2 hI2 hL hU
 let S4 := S3 ++ [.obj 4 (bools (List.replicate D.length false))]
 have hK4 : Keeps S3 S4 [] := Keeps.app _ _ _
 have hl3 := hK3.1
 have hI4 : BoolsAt S4 si inn := hK4.get (hK3.get hI2 (by simp) (by simp; omega)) (by simp) (by simp)
 obtain ⟨S5,hK5,hb2⟩ := oo_b2 (R := R) hk D hD inn hin si S.length S1.length S3.length (by omega) (by omega) (by omega) (by omega) (by omega) (D.length + 1) (List.replicate D.length false) [] k S4 (by simp) (by simp [List.count_replicate]) (by rw [pend_zero]; simp) (by omega) hI4
  ((show IntsObj S4 _ _ _ from hK4.get hL3 (by simp) (by simp)).congr fun i hi => leftI_zero D inn D.length i hi) (hK4.get hU3 (by simp) (by simp)) (by unfold BoolsAt; exact get_end _ _)
 have hK : Keeps S S5 [] := by
  refine Keeps.weak (M := [S.length,S1.length,S3.length]) ?_ (fun m hm => by simp at hm; omega)
  exact (hK1.weak (fun m hm => by simp at hm)).trans ((hK2.weak (fun m hm => by simp at hm)).trans ((hK3.weak (fun m hm => .inl (by simp at hm ⊢; omega))).trans ((hK4.weak (fun m hm => by simp at hm)).trans (hK5.weak (fun m hm => .inl (by simp at hm ⊢; omega))))))
 have hp1 : S1.getD (id + 1) .any = .obj 66 [.sl 8 (l.map Rule.lv),.map id,depsV D] := hK1.get hP.plan (by simp) (by simp)
 have hp2 : S2.getD (id + 1) .any = .obj 66 [.sl 8 (l.map Rule.lv),.map id,depsV D] := hK2.get hp1 (by simp) (by simp)
 have hp3 : S3.getD (id + 1) .any = .obj 66 [.sl 8 (l.map Rule.lv),.map id,depsV D] := hK3.get hp2 (by simp) (by simp; omega)
 refine ⟨S5,hK,fun K => ?_⟩
 unfold G.steps_plan_order_osl.fn
 dsimp only
 rw [at_of hP.plan,plan_l,List.length_map,← hl,ifB_pos rfl,mkN_nat (by omega) _ (by omega)]
 unfold newObj
 have e1 : LV.obj 3 (zeros D.length [.int .i64 0]) = intsO D.length (fun _ => 0) := by
  rw [zeros_nil]
  unfold intsO
  congr 1
  rw [List.map_const']
  simp
 have e2 : LV.obj 45 (zeros D.length [.nilsl]) = rowsO D.length (fun _ => []) := by
  rw [zeros_nil]
  unfold rowsO
  congr 1
  show _ = (List.range D.length).map fun _ => LV.nilsl
  rw [List.map_const']
  simp
 rw [e1,show S ++ [intsO D.length (fun _ => 0)] = S1 from rfl]
 dsimp only
 rw [at_of hp1,plan_l,List.length_map,← hl,ifB_pos rfl,mkN_nat (by omega) _ (by omega),e2,show S1 ++ [rowsO D.length (fun _ => [])] = S2 from rfl,at_of hp2,plan_deps,List.length_map]
 refine (hb0 _).trans ?_
 dsimp only
 rw [at_of hp3,plan_l,List.length_map,← hl,ifB_pos rfl,mkN_nat (by omega) _ (by omega),zeros_bool,show S3 ++ [LV.obj 4 (bools (List.replicate D.length false))] = S4 from rfl]
 exact hb2 (_,_)
end
end Go.Lm
set_option maxRecDepth 100000
namespace Go.Lm
section
variable {R : Type}
def TodoAt (b : Nat) (S : List LV) (v : LV) (T : List Nat) : Prop := (v = .nilsl ∧ T = []) ∨ ∃ id rest,b ≤ id ∧ v = .osl id 0 1 T.length ∧ S.getD id .any = .vec 3 (ints T ++ rest)
theorem flat_ints (l : List Nat) : flatC 1 (ints l) = ints l := by
 unfold flatC ints
 rw [show Nat.beq 1 1 = true from rfl]
 dsimp only
 rw [List.map_map]; rfl
theorem fits_ok {n m : Nat} (h : n + m ≤ 1000000) : fitsB n m 8 = true := by
 unfold fitsB
 exact decide_eq_true ⟨by omega,by omega⟩
theorem TodoAt.push {b : Nat} {S : List LV} {v : LV} {T : List Nat} (h : TodoAt b S v T) (hb : b ≤ S.length) (ys : List Nat) (hne : v = .nilsl → ys ≠ []) (hl : T.length + ys.length ≤ 1000000) :
  ∃ v' S',TodoAt b S' v' (T ++ ys) ∧ (∀ j,j < b → S'.getD j .any = S.getD j .any) ∧ S.length ≤ S'.length ∧ ∀ K : LV → List LV → Option R,appO 3 1 8 S v (ints ys) K = K v' S' := by
 rcases h with ⟨rfl,rfl⟩ | ⟨id,rest,hid,rfl,hS⟩
 ·refine ⟨.osl S.length 0 1 ys.length,S ++ [.vec 3 (ints ys)],.inr ⟨S.length,[],hb,rfl,by rw [List.append_nil]; exact get_end _ _⟩,fun j hj => (Keeps.app S [.vec 3 (ints ys)] []).2 j (by omega) (by simp),by simp,fun K => ?_⟩
  have h0 : 0 < ys.length := List.length_pos_iff.2 (hne rfl)
  unfold appO
  dsimp only
  rw [ints_len,show (Nat.blt 0 1 && Nat.blt 0 ys.length && fitsB 0 ys.length 8) = true by rw [show Nat.blt 0 ys.length = true from Nat.ble_eq_true_of_le h0,fits_ok (by simp at hl; omega)]; rfl,ifB_true,flat_ints]
 ·refine ⟨.osl S.length 0 1 (T.length + ys.length),S.set id .any ++ [.vec 3 (ints T ++ ints ys)],.inr ⟨S.length,[],hb,by rw [List.length_append],?_⟩,fun j hj => ?_,by simp,fun K => ?_⟩
  ·rw [List.append_nil]
   have := get_end (S.set id .any) (.vec 3 (ints T ++ ints ys))
   rw [List.length_set] at this
   rw [this]
   unfold ints
   rw [List.map_append]
  ·rcases Nat.lt_or_ge j S.length with h1 | h1
   ·rw [(Keeps.app (S.set id .any) [.vec 3 (ints T ++ ints ys)] []).2 j (by simpa using h1) (by simp)]
    exact other_set (by omega) _
   ·omega
  ·unfold appO
   dsimp only
   unfold cellsAt
   rw [hS]
   dsimp only
   rw [show (Nat.beq 3 3 && Nat.beq 0 0 && Nat.beq 1 1 && Nat.blt 0 1 && Nat.ble (T.length * 1) (ints T ++ rest).length && fitsB T.length (ints ys).length 8) = true by
    rw [ints_len,fits_ok hl,show Nat.ble (T.length * 1) (ints T ++ rest).length = true from Nat.ble_eq_true_of_le (by rw [List.length_append,ints_len]; omega)]; rfl,ifB_true,flat_ints,Nat.mul_one,ints_len]
   have : (ints T ++ rest).take T.length = ints T := by rw [← ints_len T,List.take_left]
   rw [this]
theorem TodoAt.keeps {b : Nat} {S S' : List LV} {v : LV} {T : List Nat} (h : TodoAt b S v T) {M : List Nat} (hk : Keeps S S' M) (hm : ∀ m ∈ M,m < b) : TodoAt b S' v T := by
 rcases h with h | ⟨id,rest,hid,hv,hS⟩
 ·exact .inl h
 ·exact .inr ⟨id,rest,hid,hv,hk.get hS (by simp) fun hc => by have := hm id hc; omega⟩
theorem Keeps.low {S0 S S' : List LV} {M : List Nat} (h : Keeps S0 S M) (h1 : ∀ j,j < S0.length → S'.getD j .any = S.getD j .any) (h2 : S.length ≤ S'.length) : Keeps S0 S' M :=
 ⟨Nat.le_trans h.1 h2,fun j hj hm => (h1 j hj).trans (h.2 j hj hm)⟩
def allFound (l : List Rule) (w : List ByteArray) : Bool := w.all fun s => (findS l s).isSome
def starts (l : List Rule) (w : List ByteArray) : List Nat := w.filterMap (findS l)
theorem starts_len (l : List Rule) (w : List ByteArray) : (starts l w).length ≤ w.length := List.length_filterMap_le _ _
theorem starts_lt {l : List Rule} {w : List ByteArray} {i : Nat} (h : i ∈ starts l w) : i < l.length := by
 obtain ⟨s,_,hs⟩ := List.mem_filterMap.1 h
 exact (findS_some hs).1
theorem cl_b0 {k : Nat} (hk : Many k) {l : List Rule} (hr : NamesRise l) (hn : l.length ≤ 500) {id : Nat} {f : ByteArray → Option Nat} {deps : LV} (w : List ByteArray) (hw : w.length ≤ 500) (si : Nat × Nat × Nat) (S0 : List LV) (hP : PlanAt S0 id l f deps) :
  ∀ (c i fuel : Nat) (v : LV) (S : List LV),i + c = w.length → c < fuel → Keeps S0 S [] → TodoAt S0.length S v (starts l (w.take i)) →
   ∃ v' S',Keeps S0 S' [] ∧ (allFound l (w.drop i) = true → TodoAt S0.length S' v' (starts l w)) ∧
    ∀ (J : N2 × N3 × LV × Unit → List LV → Option R) (Jret : LL × Int × Unit → List LV → Option R),rounds (G.steps_plan_closure.b0 k J Jret) fuel ((id + 1,0),si,v,w.map .str,(w.length : Int),(i : Int),()) S =
     cond (allFound l (w.drop i)) (J ((id + 1,0),si,v',()) S') (Jret ([],9,()) S')
 | 0,i,fuel,v,S,hc,hf,hK,hT => by
  obtain ⟨m,rfl⟩ : ∃ m,fuel = m + 1 := ⟨fuel - 1,by omega⟩
  have hi : i = w.length := by omega
  subst hi
  rw [List.take_length] at hT
  refine ⟨v,S,hK,fun _ => hT,fun J Jret => ?_⟩
  rw [rounds_succ,List.drop_length]
  unfold G.steps_plan_closure.b0
  dsimp only
  rw [lt_nat,ifB_neg (Nat.lt_irrefl _)]
  rfl
 | c + 1,i,fuel,v,S,hc,hf,hK,hT => by
  obtain ⟨m,rfl⟩ : ∃ m,fuel = m + 1 := ⟨fuel - 1,by omega⟩
  have hi : i < w.length := by omega
  have hdrop : w.drop i = w[i] :: w.drop (i + 1) := List.drop_eq_getElem_cons hi
  have htake : w.take (i + 1) = w.take i ++ [w[i]] := by rw [List.take_add_one,List.getElem?_eq_getElem hi]; rfl
  have hget : w.getD i (bs []) = w[i] := by rw [List.getD_eq_getElem?_getD,List.getElem?_eq_getElem hi]; rfl
  have hall : allFound l (w.drop i) = ((findS l w[i]).isSome && allFound l (w.drop (i + 1))) := by rw [hdrop]; rfl
  have hfind := fun K => prog_find (R := R) hk hr hn (hP.keeps hK (by simp) (by simp)) w[i] K
  rw [hall]
  cases hfs : findS l w[i] with
  | none =>
   rw [hfs] at hfind
   refine ⟨v,S,hK,fun h => by simp at h,fun J Jret => ?_⟩
   rw [rounds_succ]
   unfold G.steps_plan_closure.b0
   dsimp only
   rw [lt_nat,ifB_pos hi,idxL_nat (by simpa using hi),map_str_get w i hi,asLeaf_str,hget]
   refine (hfind _).trans ?_
   dsimp only
   rfl
  | some x =>
   rw [hfs] at hfind
   have hst : starts l (w.take (i + 1)) = starts l (w.take i) ++ [x] := by
    unfold starts
    rw [htake,List.filterMap_append,List.filterMap_cons,hfs]; rfl
   have hsl := starts_len l (w.take i)
   rw [List.length_take] at hsl
   obtain ⟨v1,S1,h1,h2,h3,h4⟩ := hT.push (R := R) (Nat.le_trans hK.1 (Nat.le_refl _)) [x] (fun _ => by simp) (by simp; omega)
   rw [← hst] at h1
   have hK1 : Keeps S0 S1 [] := hK.low h2 h3
   obtain ⟨v2,S2,h5,h7,h8⟩ := cl_b0 hk hr hn w hw si S0 hP c (i + 1) m v1 S1 (by omega) (by omega) hK1 h1
   refine ⟨v2,S2,h5,h7,fun J Jret => ?_⟩
   ·rw [rounds_succ]
    unfold G.steps_plan_closure.b0
    dsimp only
    rw [lt_nat,ifB_pos hi,idxL_nat (by simpa using hi),map_str_get w i hi,asLeaf_str,hget]
    refine (hfind _).trans ?_
    dsimp only
    have e : findI (some x) = (x : Int) := rfl
    rw [e,ifB_neg (by omega)]
    refine (h4 _).trans ?_
    rw [wrap_succ (by omega)]
    exact h8 J Jret
theorem lenD_osl (id n : Nat) (K : Nat → Option R) : lenO (dup (.osl id 0 1 n)) K = K n := rfl
theorem slD_osl (id n m : Nat) (h : m ≤ n) (K : LV → Option R) : slO 1 (dup (.osl id 0 1 n)) (m : Int) K = K (.osl id 0 1 m) := by
 show ifB (Nat.beq 1 1 && decide (0 ≤ (m : Int) ∧ (m : Int) ≤ (n : Int))) (K (.osl id 0 1 (m : Int).toNat)) none = _
 rw [decide_eq_true ⟨by omega,by omega⟩,Int.toNat_natCast]; rfl
theorem oslD (id n : Nat) (A : Nat → Nat → Nat → Nat → Option R) (B : Option R) : oslOr (dup (.osl id 0 1 n)) A B = A id 0 1 n := rfl
theorem at_vec {S : List LV} {id t : Nat} {xs : List LV} (h : S.getD id .any = .vec t xs) (K : (List LV → LV) → List LV → Option R) : objAt S id K = K (.vec t) xs := by
 unfold objAt
 rw [h]
theorem ld_last (T : List Nat) (x : Nat) (rest : List LV) (K : Int → Option R) : ldInt .i64 (ints (T ++ [x]) ++ rest) (0 + T.length * 1) K = K (x : Int) := by
 unfold ldInt
 have h : T.length < (ints (T ++ [x]) ++ rest).length := by rw [List.length_append,ints_len]; simp; omega
 rw [Nat.zero_add,Nat.mul_one,show Nat.blt T.length (ints (T ++ [x]) ++ rest).length = true from Nat.ble_eq_true_of_le h,ifB_true]
 have e : (ints (T ++ [x]) ++ rest).getD T.length .any = .int .i64 (x : Int) := by
  rw [List.getD_eq_getElem?_getD,List.getElem?_append_left (by rw [ints_len]; simp)]
  unfold ints
  simp
 rw [e]
 exact asInt_int _ _ _
theorem cl_b1 {k : Nat} (hk : Many k) {l : List Rule} {id : Nat} {f : ByteArray → Option Nat} {D : List (List Nat)} (hD : Rows D) (st : List Nat) (si : Nat) (S0 : List LV) (hP : PlanAt S0 id l f (depsV D)) (h1 : si ≠ id) (h2 : si ≠ id + 1) (hs0 : si < S0.length) :
  ∀ (m : Nat) (T : List Nat) (d : List Bool) (v : LV) (S : List LV) (fuel : Nat),d.count false * 501 + T.length ≤ m → m < fuel → m ≤ 400000 → d.length = D.length → Keeps S0 S [si] → TodoAt S0.length S v T → BoolsAt S si d →
   (∀ x ∈ T,Reach D st x ∧ x < D.length) → (∀ i,d.getD i false = true → Reach D st i) → (∀ i ∈ st,i ∈ T ∨ d.getD i false = true) → (∀ i,d.getD i false = true → ∀ j ∈ D.getD i [],j ∈ T ∨ d.getD j false = true) →
   ∃ d' S',Marks D st d' ∧ BoolsAt S' si d' ∧ Keeps S0 S' [si] ∧ ∀ J : N2 × N3 × Unit → List LV → Option R,rounds (G.steps_plan_closure.b1 k J) fuel ((id + 1,0),(si,0,D.length),v,()) S = J ((id + 1,0),(si,0,D.length),()) S' := by
 intro m
 induction m with
 | zero =>
  intro T d v S fuel hm hf hm4 hd hK hT hB c1 c2 c3 c4
  obtain ⟨fu,rfl⟩ : ∃ m,fuel = m + 1 := ⟨fuel - 1,by omega⟩
  have hT0 : T = [] := List.eq_nil_of_length_eq_zero (by omega)
  subst hT0
  refine ⟨d,S,Marks.of hd c2 (fun i hi => (c3 i hi).resolve_left (by simp)) (fun i hi j hj => (c4 i hi j hj).resolve_left (by simp)),hB,hK,fun J => ?_⟩
  rw [rounds_succ]
  unfold G.steps_plan_closure.b1
  rcases hT with ⟨rfl,_⟩ | ⟨tid,rest,hid,rfl,hS⟩ <;> rfl
 | succ m ih =>
  intro T d v S fuel hm hf hm4 hd hK hT hB c1 c2 c3 c4
  obtain ⟨fu,rfl⟩ : ∃ m,fuel = m + 1 := ⟨fuel - 1,by omega⟩
  rcases List.eq_nil_or_concat T with hT0 | ⟨T',x,hTx⟩
  ·subst hT0
   refine ⟨d,S,Marks.of hd c2 (fun i hi => (c3 i hi).resolve_left (by simp)) (fun i hi j hj => (c4 i hi j hj).resolve_left (by simp)),hB,hK,fun J => ?_⟩
   rw [rounds_succ]
   unfold G.steps_plan_closure.b1
   rcases hT with ⟨rfl,_⟩ | ⟨tid,rest,hid,rfl,hS⟩ <;> rfl
  ·rw [List.concat_eq_append] at hTx
   subst hTx
   rcases hT with ⟨_,hno⟩ | ⟨tid,rest,hid,rfl,hS⟩
   ·simp at hno
   ·have hlT : (T' ++ [x]).length = T'.length + 1 := by simp
    rw [hlT] at hm
    obtain ⟨hrx,hx⟩ := c1 x (by simp)
    have hxd : x < d.length := by omega
    have hT' : TodoAt S0.length S (.osl tid 0 1 T'.length) T' := by
     refine .inr ⟨tid,.int .i64 (x : Int) :: rest,hid,rfl,?_⟩
     rw [hS]
     congr 1
     unfold ints
     rw [List.map_append,List.append_assoc]; rfl
    have hP1 : PlanAt S id l f (depsV D) := hP.keeps hK (by simp; exact Ne.symm h1) (by simp; exact Ne.symm h2)
    have hstart : ∀ (J : N2 × N3 × Unit → List LV → Option R) (rec : N2 × N3 × LV × Unit → List LV → Option R),G.steps_plan_closure.b1 k J rec ((id + 1,0),(si,0,D.length),.osl tid 0 1 (T' ++ [x]).length,()) S =
      ifB (!(d.getD x false)) (G.steps_plan_closure.q0 k rec ((id + 1,0),(si,0,D.length),.osl tid 0 1 T'.length,(x : Int),()) (S.set si (.obj 4 (bools (d.set x true))))) (rec ((id + 1,0),(si,0,D.length),.osl tid 0 1 T'.length,()) S) := fun J rec => by
     unfold G.steps_plan_closure.b1
     dsimp only
     rw [hlT,lenD_osl,ifB_pos (by omega),lenD_osl,oslD]
     try dsimp only
     rw [show Nat.beq 1 1 = true from rfl,ifB_true,wrap_pred (by omega) (by omega),Nat.add_sub_cancel,idxN_nat (by omega),at_vec hS,ld_last,lenD_osl,wrap_pred (by omega) (by omega),Nat.add_sub_cancel,slD_osl _ _ _ (by omega),idxN_nat hx,hB.ld hxd,idxN_nat hx,hB.st hxd]
    cases hdx : d.getD x false with
    | true =>
     obtain ⟨d',S',g1,g2,g3,g4⟩ := ih T' d (.osl tid 0 1 T'.length) S fu (by omega) (by omega) (by omega) hd hK hT' hB (fun y hy => c1 y (by simp [hy])) c2
      (fun i hi => (c3 i hi).elim (fun h => (List.mem_append.1 h).elim .inl fun h => .inr (by simp at h; rw [h]; exact hdx)) .inr)
      (fun i hi j hj => (c4 i hi j hj).elim (fun h => (List.mem_append.1 h).elim .inl fun h => .inr (by simp at h; rw [h]; exact hdx)) .inr)
     refine ⟨d',S',g1,g2,g3,fun J => ?_⟩
     rw [rounds_succ,hstart,hdx,Bool.not_true,ifB_false]
     exact g4 J
    | false =>
     have hcs := count_set (d := d) hxd hdx
     have hK1 : Keeps S0 (S.set si (.obj 4 (bools (d.set x true)))) [si] := hK.trans (Keeps.set _ _ _)
     have hT1 : TodoAt S0.length (S.set si (.obj 4 (bools (d.set x true)))) (.osl tid 0 1 T'.length) T' := hT'.keeps (Keeps.set _ _ _) (fun m hm => by simp at hm; omega)
     have hl := (hD.small.get x hx).1
     obtain ⟨v2,S2,p1,p2,p3,p4⟩ := hT1.push (R := R) hK1.1 (D.getD x []) (fun h => by cases h) (by omega)
     have hK2 : Keeps S0 S2 [si] := hK1.low p2 p3
     have hB2 : BoolsAt S2 si (d.set x true) := by
      unfold BoolsAt
      rw [p2 si hs0]
      exact hB.set _
     have hget : ∀ j,(d.set x true).getD j false = true ↔ x = j ∨ d.getD j false = true := fun j => by rw [set_getD d x j hxd,Bool.or_eq_true,decide_eq_true_iff]
     obtain ⟨d',S',g1,g2,g3,g4⟩ := ih (T' ++ D.getD x []) (d.set x true) v2 S2 fu (by rw [List.length_append]; omega) (by omega) (by omega) (by simp [hd]) hK2 p1 hB2
      (fun y hy => (List.mem_append.1 hy).elim (fun h => c1 y (by simp [h])) fun h => ⟨.need hrx h,(hD.small.get x hx).2 y h⟩)
      (fun i hi => ((hget i).1 hi).elim (fun h => h ▸ hrx) (c2 i))
      (fun i hi => (c3 i hi).elim (fun h => (List.mem_append.1 h).elim (fun h => .inl (List.mem_append_left _ h)) fun h => .inr ((hget i).2 (.inl (by simp at h; exact h.symm)))) fun h => .inr ((hget i).2 (.inr h)))
      (fun i hi j hj => ((hget i).1 hi).elim (fun h => .inl (List.mem_append_right _ (h ▸ hj))) fun h => (c4 i h j hj).elim (fun h => (List.mem_append.1 h).elim (fun h => .inl (List.mem_append_left _ h)) fun h => .inr ((hget j).2 (.inl (by simp at h; exact h.symm)))) fun h => .inr ((hget j).2 (.inr h)))
     refine ⟨d',S',g1,g2,g3,fun J => ?_⟩
     rw [rounds_succ,hstart,hdx,Bool.not_false,ifB_true]
     unfold G.steps_plan_closure.q0
     dsimp only
     have hP2 := hP.keeps hK1 (by simp; exact Ne.symm h1) (by simp; exact Ne.symm h2)
     rw [at_of hP2.plan,plan_deps,row_at D x hx]
     refine (p4 _).trans ?_
     exact g4 J
end
end Go.Lm
set_option maxRecDepth 100000
namespace Go.Lm
section
variable {R : Type}
open Classical in
noncomputable def markS (D : List (List Nat)) (st : List Nat) : List Bool := (List.range D.length).map fun i => decide (Reach D st i)
theorem reach_lt {D : List (List Nat)} (hs : Small D) {st : List Nat} (h : ∀ i ∈ st,i < D.length) {i : Nat} (hr : Reach D st i) : i < D.length := by
 induction hr with
 | start h1 => exact h _ h1
 | need _ hj ih => exact (hs.get _ ih).2 _ hj
theorem markS_marks {D : List (List Nat)} (hs : Small D) {st : List Nat} (h : ∀ i ∈ st,i < D.length) : Marks D st (markS D st) := by
 refine ⟨by simp [markS],fun i => ?_⟩
 rcases Nat.lt_or_ge i D.length with hi | hi
 ·unfold markS
  simp [List.getD_eq_getElem?_getD,hi]
 ·have hl : (markS D st).length ≤ i := by simp [markS,hi]
  rw [List.getD_eq_getElem?_getD,List.getElem?_eq_none hl]
  exact ⟨fun h => by simp at h,fun hr => absurd (reach_lt hs h hr) (by omega)⟩
noncomputable def closeS (l : List Rule) (w : List ByteArray) : List Nat × Int := cond (decide (w.length > 500)) ([],2) (cond (allFound l w) ((orderedS (needsAll l) (markS (needsAll l) (starts l w))).1,0) ([],9))
theorem starts_lt' {l : List Rule} {w : List ByteArray} : ∀ i ∈ starts l w,i < (needsAll l).length := fun i h => by rw [needsAll_len]; exact starts_lt h
theorem close_marks {l : List Rule} (hn : l.length ≤ 500) (w : List ByteArray) : Marks (needsAll l) (starts l w) (markS (needsAll l) (starts l w)) := markS_marks (needs_small l hn) starts_lt'
theorem close_ok {l : List Rule} (hn : l.length ≤ 500) (hall : (orderedS (needsAll l) (List.replicate l.length true)).2 = true) (w : List ByteArray) : (orderedS (needsAll l) (markS (needsAll l) (starts l w))).2 = true :=
 orderedS_closed (needs_small l hn) (by rw [needsAll_len]; exact hall) (close_marks hn w).closed
theorem prog_closure {k : Nat} (hk : Many k) {l : List Rule} (hr : NamesRise l) (hn : l.length ≤ 500) (hall : (orderedS (needsAll l) (List.replicate l.length true)).2 = true) {id : Nat} {f : ByteArray → Option Nat} (w : List ByteArray) (S : List LV) (hP : PlanAt S id l f (depsV (needsAll l))) :
  ∃ S',Keeps S S' [] ∧ ∀ K : LL × Int × Unit → List LV → Option R,G.steps_plan_closure.fn k ((id + 1,0),w.map .str,()) S K = K (ints (closeS l w).1,(closeS l w).2,()) S' := by
 have hk' := hk
 unfold Many at hk'
 unfold G.steps_plan_closure.fn closeS
 try dsimp only
 have hwl : ((w.map LV.str).length : Int) = (w.length : Int) := by simp
 rw [hwl]
 rw [show decide ((w.length : Int) > 500) = decide (w.length > 500) from gt_nat w.length 500]
 by_cases hw : w.length > 500
 ·rw [decide_eq_true hw]
  exact ⟨S,Keeps.refl _ _,fun K => rfl⟩
 ·have hw5 : w.length ≤ 500 := by omega
  rw [decide_eq_false hw]
  have hid := lt_get hP.plan (by simp)
  let S0 := S ++ [.obj 4 (bools (List.replicate l.length false))]
  have hl0 : S0.length = S.length + 1 := by simp [S0]
  have hK0 : Keeps S S0 [] := Keeps.app _ _ _
  have hP0 : PlanAt S0 id l f (depsV (needsAll l)) := hP.keeps hK0 (by simp) (by simp)
  have hB0 : BoolsAt S0 S.length (List.replicate l.length false) := by unfold BoolsAt; exact get_end _ _
  have hrun : ∀ K : N2 × N3 × LV × LL × Int × Int × Unit → List LV → Option R,(objAt S (id + 1) fun ty c1 => ldSl 8 c1 (0 + 0) fun l2 => ifB (decide ((l2.length : Int) = (l2.length : Int))) (mkN (l2.length : Int) 1 fun m3 => newObj S (.obj 4 (zeros m3 [(.bool false)])) fun i4 S => K ((id + 1,0),(i4,0,m3),.nilsl,w.map .str,(w.length : Int),0,()) S) none) = K ((id + 1,0),(S.length,0,l.length),.nilsl,w.map .str,(w.length : Int),0,()) S0 := fun K => by
   rw [at_of hP.plan,plan_l,List.length_map,ifB_pos rfl,mkN_nat (by omega) _ (by omega)]
   unfold newObj
   dsimp only
   rw [zeros_bool]
  obtain ⟨v1,S1,a1,a2,a3⟩ := cl_b0 (R := R) hk hr hn w hw5 (S.length,0,l.length) S0 hP0 w.length 0 k .nilsl S0 (by omega) (by omega) (Keeps.refl _ _) (.inl ⟨rfl,by simp [starts]⟩)
  rw [List.drop_zero] at a2 a3
  cases hf : allFound l w with
  | false =>
   refine ⟨S1,hK0.trans a1,fun K => ?_⟩
   rw [ifB_false]
   refine (hrun fun x S => rounds (G.steps_plan_closure.b0 k (fun o10 S => rounds (G.steps_plan_closure.b1 k (fun o35 S => G.steps_plan_order_osl.fn k o35 S fun r36 S => K (r36.1,0,()) S)) k o10 S) K) k x S).trans ?_
   refine (a3 _ _).trans ?_
   rw [hf]; rfl
  | true =>
   have hT1 := a2 hf
   have hD := needs_rows l hn
   have hDl := needsAll_len l
   have hB1 : BoolsAt S1 S.length (List.replicate l.length false) := a1.get hB0 (by simp) (by simp)
   have hsl := starts_len l w
   obtain ⟨d',S2,b1,b2,b3,b4⟩ := cl_b1 (R := R) hk hD (starts l w) S.length S0 hP0 (by omega) (by omega) (by omega) (l.length * 501 + (starts l w).length) (starts l w) (List.replicate l.length false) v1 S1 k
    (by simp [List.count_replicate]) (by omega) (by omega) (by rw [hDl]; simp) (a1.weak (fun m hm => by simp at hm)) hT1 hB1 (fun x hx => ⟨.start hx,starts_lt' x hx⟩) (fun i hi => by rw [rep_false] at hi; cases hi) (fun i hi => .inl hi) (fun i hi => by rw [rep_false] at hi; cases hi)
   have hdm : d' = markS (needsAll l) (starts l w) := b1.uniq (close_marks hn w)
   rw [hDl] at b4
   obtain ⟨S3,c1,c2⟩ := order_some (R := R) hk l id f (needsAll l) hD hDl S2 (hP0.keeps b3 (by simp; omega) (by simp; omega)) S.length d' b1.len b2
   rw [hDl,hdm,close_ok hn hall w] at c2
   refine ⟨S3,Keeps.weak (M := [S.length]) ((hK0.weak (fun m hm => by simp at hm)).trans (b3.trans (c1.weak (fun m hm => by simp at hm)))) (fun m hm => by simp at hm; omega),fun K => ?_⟩
   rw [ifB_false]
   refine (hrun fun x S => rounds (G.steps_plan_closure.b0 k (fun o10 S => rounds (G.steps_plan_closure.b1 k (fun o35 S => G.steps_plan_order_osl.fn k o35 S fun r36 S => K (r36.1,0,()) S)) k o10 S) K) k x S).trans ?_
   refine (a3 _ _).trans ?_
   rw [hf,cond_true]
   refine (b4 _).trans ?_
   refine (c2 _).trans ?_
   rfl
theorem take_snoc (l : List Nat) (t : Nat) (h : t < l.length) : l.take (t + 1) = l.take t ++ [l.getD t 0] := by
 rw [List.take_add_one,List.getElem?_eq_getElem h,List.getD_eq_getElem?_getD,List.getElem?_eq_getElem h]; rfl
end
end Go.Lm
set_option maxRecDepth 100000
namespace Go.Lm
section
variable {R : Type}
theorem nat_at {row : List Nat} {i : Nat} (h : i ∈ row) : ∃ p,p < row.length ∧ row.getD p 0 = i := by
 obtain ⟨p,hp,e⟩ := List.mem_iff_getElem.1 h
 exact ⟨p,hp,by rw [List.getD_eq_getElem?_getD,List.getElem?_eq_getElem hp]; exact e⟩
noncomputable def planS (l : List Rule) (w : List ByteArray) : List Nat × Int := cond (checkRulesS l == 0) (closeS l w) ([],checkRulesS l)
end
end Go.Lm
set_option maxRecDepth 100000
namespace Go.Lm
section
variable {R : Type}
theorem ordS_len (D : List (List Nat)) (inn : List Bool) : ∀ (f : Nat) (d : List Bool) (out : List Nat),d.length = D.length → out.length + d.count false ≤ D.length → (ordS D inn f d out).1.length ≤ D.length
 | 0,d,out,hd,ho => by show out.length ≤ _; omega
 | f + 1,d,out,hd,ho => by
  unfold ordS
  cases hn : nextS D inn d with
  | none => show out.length ≤ _; omega
  | some i =>
   obtain ⟨hil,hg⟩ := nextS_some hn
   have hc := count_set (d := d) (by omega) (goodAt_iff.1 hg).2.1
   exact ordS_len D inn f (d.set i true) (out ++ [i]) (by simp [hd]) (by simp; omega)
theorem orderedS_len (D : List (List Nat)) (inn : List Bool) : (orderedS D inn).1.length ≤ D.length :=
 ordS_len D inn _ _ _ (by simp) (by simp [List.count_replicate])
theorem planS_len (l : List Rule) (w : List ByteArray) : (planS l w).1.length ≤ l.length := by
 unfold planS closeS
 cases checkRulesS l == 0 with
 | false => exact Nat.zero_le _
 | true =>
  cases decide (w.length > 500) with
  | true => exact Nat.zero_le _
  | false =>
   cases allFound l w with
   | false => exact Nat.zero_le _
   | true =>
    have := orderedS_len (needsAll l) (markS (needsAll l) (starts l w))
    rw [needsAll_len] at this
    exact this
theorem planS_lt (l : List Rule) (w : List ByteArray) : ∀ i ∈ (planS l w).1,i < l.length := by
 unfold planS closeS
 cases checkRulesS l == 0 with
 | false => exact fun i h => by simp at h
 | true =>
  cases decide (w.length > 500) with
  | true => exact fun i h => by simp at h
  | false =>
   cases allFound l w with
   | false => exact fun i h => by simp at h
   | true =>
    intro i h
    have := (orderedS_ordered (needsAll l) (markS (needsAll l) (starts l w))).mem i h
    rw [needsAll_len] at this
    exact this.1
theorem planS_small (l : List Rule) (w : List ByteArray) : (planS l w).1.length ≤ 500 := by
 cases hc : checkRulesS l == 0 with
 | true => have := planS_len l w; have := small_of (eq_of_beq hc); omega
 | false => unfold planS; rw [hc]; exact Nat.zero_le _
def namesOf (l : List Rule) (x : List Nat) : List LV := x.map fun i => .str (ruleName l i)
theorem namesOf_len (l : List Rule) (x : List Nat) : (namesOf l x).length = x.length := by simp [namesOf]
theorem namesOf_snoc (l : List Rule) (x : List Nat) (i : Nat) : namesOf l x ++ [.str (ruleName l i)] = namesOf l (x ++ [i]) := by simp [namesOf]
theorem names_noId (n : Nat) (l : List Rule) (x : List Nat) : (namesOf l x).all (noId n) = true := by
 unfold namesOf
 rw [List.all_map,List.all_eq_true]
 intro i _
 cases n <;> rfl
theorem po_b0 {k : Nat} (hk : Many k) (l : List Rule) (x : List Nat) (hx : ∀ i ∈ x,i < l.length) (hl : x.length ≤ 500) (f : Int) (S : List LV) (J : Int × LL × Unit → List LV → Option R) :
  rounds (G.steps_Order.b0 k J) k (l.map Rule.lv,f,[],ints x,(x.length : Int),0,()) S = J (f,namesOf l x,()) S := by
 have hk' := hk
 unfold Many at hk'
 refine (rounds_scan0 (fun i => (l.map Rule.lv,f,namesOf l (x.take i),ints x,(x.length : Int),(i : Int),())) S x.length k (fun _ => none) (J (f,namesOf l x,()) S) (fun rec i hi => ?_) (fun rec => ?_) (by omega)).trans (scan_none _ _ (fun _ _ _ => rfl))
 ·unfold G.steps_Order.b0
  dsimp only
  have ht : (namesOf l (x.take i)).length ≤ 500 := by rw [namesOf_len,List.length_take]; omega
  rw [lt_nat,ifB_pos hi,idxL_nat (by rw [ints_len]; exact hi),ints_get x i hi,leaf_int,name_at l _ (hx _ (nat_mem x i hi)),app_one (by omega) (by omega),namesOf_snoc,← take_snoc x i hi,wrap_succ (by omega)]
 ·unfold G.steps_Order.b0
  dsimp only
  rw [lt_nat,ifB_neg (Nat.lt_irrefl _),List.take_length]
theorem check_ok {l : List Rule} (h : checkRulesS l = 0) : NamesRise l ∧ l.length ≤ 500 ∧ allOutE l = none ∧ (orderedS (needsAll l) (List.replicate l.length true)).2 = true := by
 have hn := small_of h
 unfold checkRulesS at h
 rw [decide_eq_false (by omega),cond_false] at h
 cases hf : firstE (nameE l) l.length with
 | some e => rw [hf] at h; exact absurd h (scanE_pos (e := nameE l) (nameE_pos l) hf)
 | none =>
  rw [hf] at h
  simp only [Option.getD_none] at h
  cases ho : allOutE l with
  | some e => rw [ho] at h; exact absurd h (allOut_pos l e ho)
  | none =>
   rw [ho] at h
   simp only [Option.getD_none] at h
   refine ⟨names_rise hf,hn,rfl,?_⟩
   unfold loopS at h
   cases hc : (orderedS (needsAll l) (List.replicate l.length true)).2 with
   | true => rfl
   | false => rw [hc] at h; cases h
noncomputable def orderR (l : List Rule) (w : List ByteArray) : LL × Int := (namesOf l (planS l w).1,(planS l w).2)
theorem open_close {k : Nat} (hk : Many k) (l : List Rule) (ok : RulesOk l) (w : List ByteArray) (S : List LV) :
  (checkRulesS l ≠ 0 → ∃ S',Keeps S S' [] ∧ ∀ K : LV × Int × Unit → List LV → Option R,G.steps_open.fn k (l.map Rule.lv,()) S K = K (.nilp,checkRulesS l,()) S') ∧
  (checkRulesS l = 0 → ∃ S1 S',Keeps S S1 [] ∧ Keeps S1 S' [] ∧ PlanAt S1 S.length l (ofN l l.length) (depsV (needsAll l)) ∧ (∀ K : LV × Int × Unit → List LV → Option R,G.steps_open.fn k (l.map Rule.lv,()) S K = K (.ptr (S.length + 1) 0,0,()) S1) ∧
   ∀ K : LL × Int × Unit → List LV → Option R,G.steps_plan_closure.fn k ((S.length + 1,0),w.map .str,()) S1 K = K (ints (planS l w).1,(planS l w).2,()) S') := by
 obtain ⟨S1,hK,hP,h⟩ := prog_open (R := R) hk l ok S
 constructor
 ·intro hc
  refine ⟨S1,hK,fun K => ?_⟩
  rw [h,ne_beq hc]; rfl
 ·intro hc
  obtain ⟨hr,hn,_,hall⟩ := check_ok hc
  obtain ⟨S2,h1,h2⟩ := prog_closure (R := R) hk hr hn hall w S1 (hP hc)
  refine ⟨S1,S2,hK,h1,hP hc,fun K => ?_,fun K => ?_⟩
  ·rw [h,hc]; rfl
  ·rw [h2]
   unfold planS
   rw [hc]; rfl
theorem asPtr_ptr (a b : Nat) (K : Nat → Nat → Option R) : asPtr (.ptr a b) K = K a b := rfl
theorem prog_Order {k : Nat} (hk : Many k) (l : List Rule) (ok : RulesOk l) (w : List ByteArray) (S : List LV) (K : LL × Int × Unit → List LV → Option R) : G.steps_Order.fn k (l.map Rule.lv,w.map .str,()) S K = K ((orderR l w).1,(orderR l w).2,()) S := by
 have hrun : ∃ S',Keeps S S' [] ∧ ∀ K : LL × Int × Unit → List LV → Option (LV × List LV),G.steps_Order.fn0 k (l.map Rule.lv,w.map .str,()) S K = K ((orderR l w).1,(orderR l w).2,()) S' := by
  obtain ⟨h1,h2⟩ := open_close (R := LV × List LV) hk l ok w S
  unfold G.steps_Order.fn0 orderR
  dsimp only
  by_cases hc : checkRulesS l = 0
  ·obtain ⟨S1,S2,a1,a2,_,a3,a4⟩ := h2 hc
   refine ⟨S2,a1.trans a2,fun K => ?_⟩
   refine (a3 _).trans ?_
   dsimp only
   rw [show ((0 : Int) != 0) = false from rfl,ifB_false,asPtr_ptr]
   refine (a4 _).trans ?_
   dsimp only
   rw [ints_len]
   exact po_b0 hk l _ (planS_lt l w) (planS_small l w) _ S2 _
  ·obtain ⟨S1,a1,a2⟩ := h1 hc
   refine ⟨S1,a1,fun K => ?_⟩
   refine (a2 _).trans ?_
   dsimp only
   unfold planS
   rw [ne0,ne_beq hc]; rfl
 obtain ⟨S',hK,h⟩ := hrun
 obtain ⟨G',hG⟩ := hK.grown
 unfold G.steps_Order.fn
 refine popK_at (rs := G.steps_Order.rs) (r := (((orderR l w).1,(orderR l w).2,()) : LL × Int × Unit)) (G := G') ?_ ?_
 ·rw [← hG]; exact h _
 ·show ([LV.own 9 1 (orderR l w).1,.int .i64 (orderR l w).2].all (noId 5)) = true
  have h : noId 5 (LV.own 9 1 (orderR l w).1) = true := names_noId 4 _ _
  rw [List.all_cons,h]; rfl
end
end Go.Lm
