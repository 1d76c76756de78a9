/- Parts of the proof: LmU2, LmU3, LmU4, LmU5, LmU6, LmU7, LmR, LmR2, LmR3, LmR4, LmL, LmL2, LmN, LmM, LmO, LmO2, LmO3, LmO4, LmOs, LmT2, LmT4, LmQ, LmQ2, LmQ3, LmQ4, LmQ5, LmQ6, LmQ7, LmQ8, LmQ9, LmQ10. -/
import Derived.Test.YtefkkflmiabfeaaGreatDoorLd
import Derived.Laws.RangeString
import Derived.Laws.RangeAny
import Derived.Lib.SplitLaws
import Derived.Lib.IndexLaws
import Derived.Lib.ItoaNum
import Derived.Lib.AtoiAll
import Derived.Lib.AtoiErr
import Derived.Lib.ItoaLen
set_option linter.unusedVariables false
set_option linter.unusedSimpArgs false
set_option maxRecDepth 100000
namespace Go.Lm
section
variable {R : Type}
def hexB (c : Int) : Bool := (decide (c ≥ 48) && decide (c ≤ 57)) || (decide (c ≥ 97) && decide (c ≤ 102))
theorem ba_len (s : ByteArray) : s.data.toList.length = s.size := by rw [Array.length_toList]; rfl
def isDigestS (s : ByteArray) : Bool := s.data.toList.all (fun b => hexB (b.toNat : Int)) && ((s.size : Int) == 16)
theorem all_bytes (s : ByteArray) (f : Int → Bool) : s.data.toList.all (fun b => f (b.toNat : Int)) = scan (fun i => match f (bt s i) with | true => none | false => some false) true s.size 0 := by
 have : ∀ (d i : Nat),i + d = s.size → (s.data.toList.drop i).all (fun b => f (b.toNat : Int)) = scan (fun i => match f (bt s i) with | true => none | false => some false) true d i := by
  intro d
  induction d with
  | zero => intro i hi; rw [List.drop_eq_nil_of_le (by rw [ba_len]; omega)]; rfl
  | succ d ih =>
   intro i hi
   have hlt : i < s.size := by omega
   have hlt' : i < s.data.toList.length := by rw [ba_len]; exact hlt
   rw [List.drop_eq_getElem_cons hlt',List.all_cons]
   simp only [scan]
   have e : bt s i = ((s.data.toList[i]).toNat : Int) := by rw [bt_nat hlt]; rfl
   rw [e]
   cases f ((s.data.toList[i]).toNat : Int) with
   | true => simp only [Bool.true_and]; exact ih (i + 1) (by omega)
   | false => rfl
 simpa using this s.size 0 (by omega)
theorem ref_IsDigest {k : Nat} (hk : Many k) (s : ByteArray) (hs : s.size ≤ 140737488355328) (S : List LV) (K : Bool × Unit → List LV → Option R) : G.smithyardref1_IsDigest.fn k (s,()) S K = K (isDigestS s,()) S := by
 unfold Many at hk
 unfold G.smithyardref1_IsDigest.fn isDigestS
 refine Eq.trans (rounds_scan0 (fun i => (s,(i : Int),())) S s.size k (fun i => match hexB (bt s i) with | true => none | false => some (K (false,()) S)) (K (((s.size : Int) == 16),()) S) (fun rec i hi => ?_) (fun rec => ?_) (by omega)) ?_
 ·unfold G.smithyardref1_IsDigest.b0 G.smithyardref1_IsDigest.q0 hexB
  dsimp only
  rw [lt_nat,ifB_pos hi]
  simp only [idxStr_nat hi,wrap_succ (show i < 9223372036854775807 by omega)]
  generalize decide (bt s i ≥ 48) = b1
  generalize decide (bt s i ≤ 57) = b2
  generalize decide (bt s i ≥ 97) = b3
  generalize decide (bt s i ≤ 102) = b4
  cases b1 <;> cases b2 <;> cases b3 <;> cases b4 <;> rfl
 ·unfold G.smithyardref1_IsDigest.b0
  dsimp only
  rw [lt_nat,ifB_neg (Nat.lt_irrefl _)]
 ·rw [all_bytes]
  generalize hz : ((s.size : Int) == 16) = z
  have : ∀ (d i : Nat),scan (fun i => match hexB (bt s i) with | true => none | false => some (K (false,()) S)) (K (z,()) S) d i = K (scan (fun i => match hexB (bt s i) with | true => none | false => some false) true d i && z,()) S := by
   intro d
   induction d with
   | zero => intro i; rfl
   | succ d ih =>
    intro i
    simp only [scan]
    cases hexB (bt s i) with
    | true => exact ih (i + 1)
    | false => rfl
  exact this _ _
theorem dropWhile_nil {α : Type} (p : α → Bool) : ∀ (l : List α),l.dropWhile p = [] ↔ ∀ x,x ∈ l → p x = true
 | [] => by simp
 | x :: l => by
  rw [List.dropWhile_cons]
  cases h : p x with
  | true => simp [h,dropWhile_nil p l]
  | false => simp [h]
theorem dropWhile_head {α : Type} (p : α → Bool) : ∀ (l : List α) (x : α) (xs : List α),l.dropWhile p = x :: xs → p x = false
 | [],x,xs,h => by simp at h
 | y :: l,x,xs,h => by
  rw [List.dropWhile_cons] at h
  cases hy : p y with
  | true => rw [hy] at h; exact dropWhile_head p l x xs (by simpa using h)
  | false => rw [hy] at h; simp at h; rw [← h.1]; exact hy
theorem trim_nil (l cs : List UInt8) : Lib.trimS l cs = [] ↔ l.all (fun b => cs.contains b) = true := by
 unfold Lib.trimS Lib.trimLeftS
 rw [dropWhile_nil]
 constructor
 ·intro h
  have hr : Lib.trimRightS l cs = [] := by
   unfold Lib.trimRightS at h ⊢
   cases hd : l.reverse.dropWhile (cs.contains ·) with
   | nil => rfl
   | cons x xs =>
    exfalso
    have h1 := h x (by rw [hd]; simp)
    have h2 := dropWhile_head _ _ _ _ hd
    rw [h1] at h2; cases h2
  unfold Lib.trimRightS at hr
  have hr' : l.reverse.dropWhile (cs.contains ·) = [] := by simpa using hr
  rw [dropWhile_nil] at hr'
  rw [List.all_eq_true]
  intro x hx
  exact hr' x (by simpa using hx)
 ·intro h x hx
  rw [List.all_eq_true] at h
  unfold Lib.trimRightS at hx
  exact h x (by
   have := List.mem_reverse.1 hx
   have := (List.dropWhile_sublist _).subset this
   simpa using this)
theorem prog_IsDigest {k : Nat} (s : ByteArray) (S : List LV) (K : Bool × Unit → List LV → Option R) : G.blob_IsDigest.fn k (s,()) S K = K (isDigestS s,()) S := by
 unfold G.blob_IsDigest.fn isDigestS
 dsimp only
 cases hz : ((s.size : Int) == 16) with
 | false => simp
 | true =>
  have h16 : s.size = 16 := by have := beq_iff_eq.1 hz; omega
  rw [ifB_true,Bool.and_true]
  unfold H.Trim.fn handF trimF
  dsimp only
  have : (decide (s.size ≤ 9223372036854775807) && decide ((bs [48,49,50,51,52,53,54,55,56,57,97,98,99,100,101,102]).size < 4294967281) && (bs [48,49,50,51,52,53,54,55,56,57,97,98,99,100,101,102]).data.toList.all (fun b => decide (b.toNat < 128))) = true := by
   rw [decide_eq_true (by omega)]; decide +kernel
  rw [this]
  dsimp only
  congr 2
  rw [Bool.eq_iff_iff,strEq_iff]
  constructor
  ·intro h
   have h2 : Lib.trimS s.data.toList (bs [48,49,50,51,52,53,54,55,56,57,97,98,99,100,101,102]).data.toList = [] := by
    have := congrArg (fun b : ByteArray => b.data.toList) h
    simpa [bs] using this
   rw [trim_nil] at h2
   rw [List.all_eq_true] at h2 ⊢
   intro b hb
   have h3 := h2 b hb
   have key : ∀ n : Fin 256,(bs [48,49,50,51,52,53,54,55,56,57,97,98,99,100,101,102]).data.toList.contains (n.val.toUInt8) = true → hexB (n.val : Int) = true := by decide +kernel
   have := key ⟨b.toNat,b.toNat_lt⟩
   simp only [Nat.toUInt8,UInt8.ofNat_toNat] at this
   exact this h3
  ·intro h
   have h2 : Lib.trimS s.data.toList (bs [48,49,50,51,52,53,54,55,56,57,97,98,99,100,101,102]).data.toList = [] := by
    rw [trim_nil,List.all_eq_true]
    rw [List.all_eq_true] at h
    intro b hb
    have h3 := h b hb
    have key : ∀ n : Fin 256,hexB (n.val : Int) = true → (bs [48,49,50,51,52,53,54,55,56,57,97,98,99,100,101,102]).data.toList.contains (n.val.toUInt8) = true := by decide +kernel
    have := key ⟨b.toNat,b.toNat_lt⟩
    simp only [Nat.toUInt8,UInt8.ofNat_toNat] at this
    exact this h3
   rw [h2]; rfl
structure Look where
 p : ByteArray
 d : ByteArray
 r : Bool
def Look.lv (x : Look) : LV := .agg [.str x.p,.str x.d,.bool x.r]
def lookS (l : List Look) (i : Nat) : Option Int :=
 let x := l.getD i ⟨bs [],bs [],false⟩
 match !(isPathS x.p) with
 | true => some 3
 | false => match (!(strEq x.d (bs [])) && !(isDigestS x.d)) || (strEq x.d (bs []) && x.r) with
  | true => some 3
  | false => match decide (0 < i) && (strLt x.p (l.getD (i - 1) ⟨bs [],bs [],false⟩).p || strEq x.p (l.getD (i - 1) ⟨bs [],bs [],false⟩).p) with
   | true => some 8
   | false => none
def checkLooksS (l : List Look) : Int := match decide (l.length > 4000) with
 | true => 2
 | false => scan (lookS l) 0 l.length 0
theorem look_get (l : List Look) (i : Nat) (h : i < l.length) : (l.map Look.lv).getD i .any = (l.getD i ⟨bs [],bs [],false⟩).lv := by
 simp [List.getD_eq_getElem?_getD,h]
theorem Look.mat (x : Look) (K : List LV → Option R) : mat 3 x.lv K = K [.str x.p,.str x.d,.bool x.r] := rfl
theorem gt_nat (i n : Nat) : decide ((i : Int) > (n : Int)) = decide (i > n) := by simp
theorem prog_CheckLooks {k : Nat} (hk : Many k) (l : List Look) (S : List LV) (K : Int × Unit → List LV → Option R) : G.action_CheckLooks.fn k (l.map Look.lv,()) S K = K (checkLooksS l,()) S := by
 have hk' := hk
 unfold Many at hk'
 unfold G.action_CheckLooks.fn checkLooksS
 dsimp only
 rw [List.length_map,show ((4000 : Int)) = ((4000 : Nat) : Int) from rfl,gt_nat]
 cases hc : decide (l.length > 4000) with
 | true => rfl
 | false =>
  have hlen : l.length ≤ 4000 := by have := of_decide_eq_false hc; omega
  rw [ifB_false]
  dsimp only
  rw [← scan_map (fun n => K (n,()) S)]
  refine rounds_scan0 (fun i => (l.map Look.lv,l.map Look.lv,(l.length : Int),(i : Int),())) S l.length k _ _ (fun rec i hi => ?_) (fun rec => ?_) (by omega)
  ·unfold G.action_CheckLooks.b0 G.action_CheckLooks.q0 G.action_CheckLooks.q1
   dsimp only
   rw [lt_nat,ifB_pos hi,idxL_nat (by simpa using hi),look_get _ _ hi]
   rw [Look.mat]
   simp only [List.getD_cons_zero,List.getD_cons_succ,asStr_str,asBool_bool]
   rw [prog_IsPath hk]
   dsimp only
   have hprev : ∀ (h0 : 0 < i) (K' : LV → Option R),idxL (l.map Look.lv) (IntKind.wrap .i64 ((i : Int) - 1)) K' = K' (l.getD (i - 1) ⟨bs [],bs [],false⟩).lv := fun h0 K' => by
    rw [wrap_pred h0 (by omega),idxL_nat (by simp; omega),look_get _ _ (by omega)]
   have htail : ∀ (J : Option R),ifB (decide ((i : Int) > 0)) (idxL (l.map Look.lv) (IntKind.wrap .i64 ((i : Int) - 1)) fun v8 => asStr (leaf v8 0) fun s9 => ifB (strLt (l.getD i ⟨bs [],bs [],false⟩).p s9 || strEq (l.getD i ⟨bs [],bs [],false⟩).p s9) (K (8,()) S) J) J =
     match decide (0 < i) && (strLt (l.getD i ⟨bs [],bs [],false⟩).p (l.getD (i - 1) ⟨bs [],bs [],false⟩).p || strEq (l.getD i ⟨bs [],bs [],false⟩).p (l.getD (i - 1) ⟨bs [],bs [],false⟩).p) with | true => K (8,()) S | false => J := fun J => by
    by_cases h0 : 0 < i
    ·rw [ifB_pos (show (i : Int) > 0 by omega),hprev h0,decide_eq_true h0]
     show ifB _ _ _ = _
     simp only [Bool.true_and]
     cases (strLt (l.getD i ⟨bs [],bs [],false⟩).p (l.getD (i - 1) ⟨bs [],bs [],false⟩).p || strEq (l.getD i ⟨bs [],bs [],false⟩).p (l.getD (i - 1) ⟨bs [],bs [],false⟩).p) <;> rfl
    ·rw [ifB_neg (show ¬ (i : Int) > 0 by omega),decide_eq_false h0]; rfl
   have hwrap := wrap_succ (show i < 9223372036854775807 by omega)
   have hdig := fun (K' : Bool × Unit → List LV → Option R) => prog_IsDigest (k := k) (l.getD i ⟨bs [],bs [],false⟩).d S K'
   simp only [hdig,hwrap,htail]
   unfold lookS
   dsimp only
   generalize (decide (0 < i) && (strLt (l.getD i ⟨bs [],bs [],false⟩).p (l.getD (i - 1) ⟨bs [],bs [],false⟩).p || strEq (l.getD i ⟨bs [],bs [],false⟩).p (l.getD (i - 1) ⟨bs [],bs [],false⟩).p)) = b5
   generalize isPathS (l.getD i ⟨bs [],bs [],false⟩).p = b1
   generalize strEq (l.getD i ⟨bs [],bs [],false⟩).d (bs []) = b2
   generalize isDigestS (l.getD i ⟨bs [],bs [],false⟩).d = b3
   generalize (l.getD i ⟨bs [],bs [],false⟩).r = b4
   cases b1 <;> cases b2 <;> cases b3 <;> cases b4 <;> cases b5 <;> rfl
  ·unfold G.action_CheckLooks.b0
   dsimp only
   rw [lt_nat,ifB_neg (Nat.lt_irrefl _)]
end
end Go.Lm
set_option maxRecDepth 100000
namespace Go.Lm
section
variable {R : Type}
theorem less_irrefl : ∀ (a : List UInt8),Op.bytesLess a a = false
 | [] => rfl
 | x :: a => by simp [Op.bytesLess,less_irrefl a]
theorem less_trans : ∀ (a b c : List UInt8),Op.bytesLess a b = true → Op.bytesLess b c = true → Op.bytesLess a c = true
 | _,[],_,h,_ => by cases ‹List UInt8› <;> simp [Op.bytesLess] at h
 | _,_ :: _,[],_,h => by simp [Op.bytesLess] at h
 | [],_ :: _,_ :: _,_,_ => rfl
 | x :: a,y :: b,z :: c,h1,h2 => by
  simp only [Op.bytesLess,Bool.or_eq_true,Bool.and_eq_true,decide_eq_true_eq,beq_iff_eq] at *
  rcases h1 with h1 | ⟨rfl,h1⟩ <;> rcases h2 with h2 | ⟨rfl,h2⟩
  ·exact .inl (UInt8.lt_trans h1 h2)
  ·exact .inl h1
  ·exact .inl h2
  ·exact .inr ⟨rfl,less_trans a b c h1 h2⟩
theorem less_total : ∀ (a b : List UInt8),Op.bytesLess a b = false → a ≠ b → Op.bytesLess b a = true
 | [],[],_,h => absurd rfl h
 | [],_ :: _,h,_ => by simp [Op.bytesLess] at h
 | _ :: _,[],_,_ => rfl
 | x :: a,y :: b,h,hne => by
  simp only [Op.bytesLess,Bool.or_eq_false_iff,Bool.and_eq_false_iff,decide_eq_false_iff_not,beq_eq_false_iff_ne] at h
  simp only [Op.bytesLess,Bool.or_eq_true,Bool.and_eq_true,decide_eq_true_eq,beq_iff_eq]
  by_cases e : x = y
  ·subst e
   have h2 := h.2.resolve_left (fun h => h rfl)
   exact .inr ⟨rfl,less_total a b h2 (fun e => hne (by rw [e]))⟩
  ·left
   have h1 : ¬ x.toNat < y.toNat := fun h' => h.1 (UInt8.lt_iff_toNat_lt.2 h')
   have h2 : x.toNat ≠ y.toNat := fun h' => e (UInt8.toNat_inj.1 h')
   exact UInt8.lt_iff_toNat_lt.2 (by omega)
theorem strLt_less (a b : ByteArray) : strLt a b = Op.bytesLess a.data.toList b.data.toList := by unfold strLt; rw [baList,baList]
theorem strLt_irrefl (a : ByteArray) : strLt a a = false := by rw [strLt_less,less_irrefl]
theorem strLt_trans {a b c : ByteArray} (h : strLt a b = true) (h' : strLt b c = true) : strLt a c = true := by rw [strLt_less] at *; exact less_trans _ _ _ h h'
theorem ba_ext {a b : ByteArray} (h : a.data.toList = b.data.toList) : a = b := by
 have := Array.ext' h
 cases a; cases b; simp_all
theorem strLt_total {a b : ByteArray} (h : (strLt a b || strEq a b) = false) : strLt b a = true := by
 rw [Bool.or_eq_false_iff] at h
 rw [strLt_less] at *
 refine less_total _ _ h.1 (fun e => ?_)
 have := ba_ext e
 have h2 := (strEq_iff a b).2 this
 rw [h2] at h; cases h.2
structure File where
 p : ByteArray
 r : Bool
 b : ByteArray
 nil : Bool
 h : nil = true → b = bs []
def File.leaf (x : File) : LV := match x.nil with
 | true => .nilsl
 | false => .sl 1 (bytesL x.b)
def File.lv (x : File) : LV := .agg [.str x.p,.bool x.r,x.leaf]
def File.zero : File := ⟨bs [],false,bs [],true,fun _ => rfl⟩
theorem File.mat (x : File) (K : List LV → Option R) : mat 3 x.lv K = K [.str x.p,.bool x.r,x.leaf] := rfl
theorem File.sl (x : File) (K : List LV → Option R) : asSl 1 x.leaf K = K (bytesL x.b) := by
 unfold File.leaf
 cases h : x.nil with
 | true => rw [x.h h]; rfl
 | false => exact asSl_sl _ _ _
theorem bytesL_len (b : ByteArray) : (bytesL b).length = b.size := by unfold bytesL; rw [List.length_map,ba_len]
theorem file_get (l : List File) (i : Nat) (h : i < l.length) : (l.map File.lv).getD i .any = (l.getD i .zero).lv := by
 simp [List.getD_eq_getElem?_getD,h]
theorem file_mem (l : List File) (i : Nat) (h : i < l.length) : l.getD i .zero ∈ l := by
 rw [List.getD_eq_getElem?_getD,List.getElem?_eq_getElem h]; exact List.getElem_mem h
def Rising (l : List File) : Prop := ∀ i j,i < j → j < l.length → strLt (l.getD i .zero).p (l.getD j .zero).p = true
def memB (l : List File) (s : ByteArray) : Bool := l.any fun x => strEq x.p s
theorem memB_iff (l : List File) (s : ByteArray) : memB l s = true ↔ ∃ j,j < l.length ∧ (l.getD j .zero).p = s := by
 unfold memB
 rw [List.any_eq_true]
 constructor
 ·rintro ⟨x,hx,he⟩
  obtain ⟨j,hj,rfl⟩ := List.mem_iff_getElem.1 hx
  exact ⟨j,hj,by rw [List.getD_eq_getElem?_getD,List.getElem?_eq_getElem hj]; exact (strEq_iff _ _).1 he⟩
 ·rintro ⟨j,hj,he⟩
  exact ⟨_,file_mem l j hj,(strEq_iff _ _).2 he⟩
theorem cut_at (n : Nat) (less : Nat → Bool) (hd : ∀ i j,i < j → j < n → less j = true → less i = true) : ∃ c,c ≤ n ∧ (∀ i,i < c → less i = true) ∧ ∀ i,c ≤ i → i < n → less i = false := by
 induction n with
 | zero => exact ⟨0,Nat.le_refl _,fun i hi => absurd hi (by omega),fun i h1 h2 => absurd h2 (by omega)⟩
 | succ n ih =>
  obtain ⟨c,h1,h2,h3⟩ := ih (fun i j hij hj => hd i j hij (by omega))
  cases hl : less n with
  | true =>
   have : c = n := by
    rcases Nat.lt_or_ge c n with h | h
    ·have := h3 c (Nat.le_refl _) h
     rw [hd c n h (by omega) hl] at this; cases this
    ·omega
   subst this
   refine ⟨c + 1,Nat.le_refl _,fun i hi => ?_,fun i h4 h5 => absurd h5 (by omega)⟩
   by_cases e : i = c
   ·subst e; exact hl
   ·exact h2 i (by omega)
  | false =>
   refine ⟨c,by omega,h2,fun i h4 h5 => ?_⟩
   by_cases e : i = n
   ·subst e; exact hl
   ·exact h3 i h4 (by omega)
theorem place {l : List File} (hl : Rising l) (s : ByteArray) : ∃ c,c ≤ l.length ∧ (∀ i,i < c → strLt (l.getD i .zero).p s = true) ∧ (∀ i,c ≤ i → i < l.length → strLt (l.getD i .zero).p s = false) ∧
  (memB l s = (decide (c < l.length) && strEq (l.getD c .zero).p s)) ∧ ∀ j,j < l.length → (l.getD j .zero).p = s → j = c := by
 obtain ⟨c,h1,h2,h3⟩ := cut_at l.length (fun i => strLt (l.getD i .zero).p s) (fun i j hij hj h => strLt_trans (hl i j hij hj) h)
 have huni : ∀ j,j < l.length → (l.getD j .zero).p = s → j = c := fun j hj he => by
  rcases Nat.lt_trichotomy j c with h | h | h
  ·have := h2 j h
   simp only [he,strLt_irrefl] at this
   cases this
  ·exact h
  ·have h4 := h3 c (Nat.le_refl _) (by omega)
   have h5 := hl c j h hj
   rw [he] at h5
   simp only [h5] at h4
   cases h4
 refine ⟨c,h1,h2,h3,?_,huni⟩
 rw [Bool.eq_iff_iff,memB_iff,Bool.and_eq_true,decide_eq_true_eq,strEq_iff]
 constructor
 ·rintro ⟨j,hj,he⟩
  obtain rfl := huni j hj he
  exact ⟨hj,he⟩
 ·rintro ⟨h4,h5⟩
  exact ⟨c,h4,h5⟩
def clashB (l : List File) (p : ByteArray) : Bool := scan (fun i => match (bt p i == 47) && memB l (p.extract 0 i) with | true => some true | false => none) false p.size 0
theorem mpAt_at {S : List LV} {m : List (LV × LV)} {T : List LV} (K : List (LV × LV) → Option R) : mpAt (S ++ .mp .str m :: T) S.length .str K = K m := by
 unfold mpAt
 have : (S ++ .mp .str m :: T).getD S.length .any = .mp .str m := by simp [List.getD_eq_getElem?_getD]
 rw [this]
 rfl
def hasM (l : List File) : Nat → List (LV × LV)
 | 0 => []
 | i + 1 => mapPut (hasM l i) (.str (l.getD i .zero).p) (.bool true)
theorem mapGet_put (m : List (LV × LV)) (a b : ByteArray) (v : LV) (hm : ∀ e,e ∈ m → ∃ s,e.1 = .str s) : mapGet (mapPut m (.str a) v) (.str b) = match decide (a = b) with | true => some v | false => mapGet m (.str b) := by
 induction m with
 | nil => simp only [mapPut,mapGet,keyEq]; cases decide (a = b) <;> rfl
 | cons e m ih =>
  obtain ⟨k,y⟩ := e
  obtain ⟨s,hs⟩ := hm (k,y) (by simp)
  simp only at hs
  subst hs
  simp only [mapPut,keyEq]
  by_cases h1 : s = a
  ·subst h1
   simp only [decide_true,mapGet,keyEq]
   by_cases h2 : s = b
   ·subst h2; simp
   ·simp [h2]
  ·simp only [decide_eq_false h1,mapGet,keyEq]
   by_cases h2 : s = b
   ·subst h2
    simp [Ne.symm h1]
   ·simp only [decide_eq_false h2]
    exact ih (fun e he => hm e (by simp [he]))
theorem hasM_keys (l : List File) : ∀ i e,e ∈ hasM l i → ∃ s,e.1 = .str s := by
 intro i
 induction i with
 | zero => intro e he; simp [hasM] at he
 | succ i ih =>
  have : ∀ (m : List (LV × LV)) (a : ByteArray) (v : LV),(∀ e,e ∈ m → ∃ s,e.1 = LV.str s) → ∀ e,e ∈ mapPut m (.str a) v → ∃ s,e.1 = .str s := by
   intro m a v
   induction m with
   | nil => intro _ e he; simp [mapPut] at he; exact ⟨a,by rw [he]⟩
   | cons x m ih2 =>
    intro hm e he
    obtain ⟨k,y⟩ := x
    simp only [mapPut] at he
    split at he
    ·rcases List.mem_cons.1 he with rfl | he
     ·exact hm (k,y) (by simp)
     ·exact hm e (by simp [he])
    ·rcases List.mem_cons.1 he with rfl | he
     ·exact hm (k,y) (by simp)
     ·exact ih2 (fun e he => hm e (by simp [he])) e he
  exact this _ _ _ ih
theorem hasM_get (l : List File) (s : ByteArray) : ∀ i,i ≤ l.length → (mapGet (hasM l i) (.str s)).getD (.bool false) = .bool (memB (l.take i) s) := by
 intro i
 induction i with
 | zero => intro _; simp [hasM,mapGet,memB]
 | succ i ih =>
  intro hi
  simp only [hasM]
  rw [mapGet_put _ _ _ _ (hasM_keys l i)]
  have ht : l.take (i + 1) = l.take i ++ [l.getD i .zero] := by
   rw [List.take_add_one,List.getD_eq_getElem?_getD,List.getElem?_eq_getElem (by omega : i < l.length)]; rfl
  have hm : memB (l.take (i + 1)) s = (memB (l.take i) s || strEq (l.getD i .zero).p s) := by
   rw [ht]; unfold memB; rw [List.any_append]; simp
  rw [hm,strEq_dec]
  cases decide ((l.getD i .zero).p = s) with
  | true => simp
  | false => simp only [Bool.or_false]; exact ih (by omega)
theorem prog_clashes {k : Nat} (hk : Many k) (l : List File) (p : ByteArray) (hp : p.size ≤ 140737488355328) (S T : List LV) (K : Bool × Unit → List LV → Option R) :
  G.blob_clashes.fn k (S.length,p,()) (S ++ .mp .str (hasM l l.length) :: T) K = K (clashB l p,()) (S ++ .mp .str (hasM l l.length) :: T) := by
 unfold Many at hk
 unfold G.blob_clashes.fn clashB
 rw [← scan_map (fun b => K (b,()) (S ++ .mp .str (hasM l l.length) :: T))]
 refine rounds_scan0 (fun i => (S.length,p,(p.size : Int),(i : Int),())) _ p.size k _ _ (fun rec i hi => ?_) (fun rec => ?_) (by omega)
 ·unfold G.blob_clashes.b0
  dsimp only
  rw [lt_nat,ifB_pos hi,idxStr_nat hi,slStr_nat (by omega),mpAt_at,hasM_get l _ _ (Nat.le_refl _),List.take_length,asBool_bool,wrap_succ (by omega)]
  generalize (bt p i == 47) = b1
  generalize memB l (p.extract 0 i) = b2
  cases b1 <;> cases b2 <;> rfl
 ·unfold G.blob_clashes.b0
  dsimp only
  rw [lt_nat,ifB_neg (Nat.lt_irrefl _)]
def sumB (l : List File) : Nat → Nat
 | 0 => 0
 | i + 1 => sumB l i + (l.getD i .zero).b.size
def fileS (l : List File) (i : Nat) : Option Int :=
 match !(isPathS (l.getD i .zero).p) with
 | true => some 3
 | false => match decide ((l.getD i .zero).b.size > 100000) with
  | true => some 2
  | false => match decide (0 < i) && (strLt (l.getD i .zero).p (l.getD (i - 1) .zero).p || strEq (l.getD i .zero).p (l.getD (i - 1) .zero).p) with
   | true => some 8
   | false => none
def clashS (l : List File) (i : Nat) : Option Int := match clashB l (l.getD i .zero).p with
 | true => some 12
 | false => none
def checkFilesS (l : List File) : Int := match decide (l.length > 1000) with
 | true => 2
 | false => scan (fileS l) (scan (clashS l) (match decide (sumB l l.length > 2000000) with | true => 2 | false => 0) l.length 0) l.length 0
theorem sumB_le (l : List File) (hb : ∀ x ∈ l,x.b.size ≤ 140737488355328) : ∀ i,i ≤ l.length → sumB l i ≤ i * 140737488355328 := by
 intro i
 induction i with
 | zero => intro _; simp [sumB]
 | succ i ih =>
  intro hi
  have h1 := ih (by omega)
  have h2 := hb _ (file_mem l i (by omega))
  simp only [sumB]
  rw [Nat.succ_mul]; omega
structure FilesOk (l : List File) : Prop where
 n : l.length ≤ 140737488355328
 b : ∀ x ∈ l,x.b.size ≤ 140737488355328
 p : ∀ x ∈ l,x.p.size ≤ 140737488355328
theorem setLast (S : List LV) (a b : LV) : (S ++ [a]).set S.length b = S ++ [b] := by
 rw [List.set_append_right _ _ (Nat.le_refl _),Nat.sub_self]; rfl
theorem scan_pred {β : Type} {P : β → Prop} {step : Nat → Option β} {fin : β} (hs : ∀ j r,step j = some r → P r) (hf : P fin) : ∀ (d i : Nat),P (scan step fin d i)
 | 0,_ => hf
 | d + 1,i => by
  simp only [scan]
  cases h : step i with
  | some r => exact hs i r h
  | none => exact scan_pred hs hf d (i + 1)
theorem prog_CheckFiles0 {k : Nat} (hk : Many k) (l : List File) (ok : FilesOk l) (S : List LV) : ∃ G',∀ {R : Type} (K : Int × Unit → List LV → Option R),G.blob_CheckFiles.fn0 k (l.map File.lv,()) S K = K (checkFilesS l,()) (S ++ G') := by
 have hk' := hk
 unfold Many at hk'
 unfold checkFilesS
 cases hc : decide (l.length > 1000) with
 | true =>
  refine ⟨[],fun {R} K => ?_⟩
  unfold G.blob_CheckFiles.fn0
  dsimp only
  rw [List.length_map,show ((1000 : Int)) = ((1000 : Nat) : Int) from rfl,gt_nat,hc,List.append_nil]; rfl
 | false =>
  have hlen : l.length ≤ 1000 := by have := of_decide_eq_false hc; omega
  let code : Int × List LV := scan (fun i => (fileS l i).map fun n => (n,S ++ [.mp .str (hasM l i)])) (scan (clashS l) (match decide (sumB l l.length > 2000000) with | true => 2 | false => 0) l.length 0,S ++ [.mp .str (hasM l l.length)]) l.length 0
  have hfst : code.1 = scan (fileS l) (scan (clashS l) (match decide (sumB l l.length > 2000000) with | true => 2 | false => 0) l.length 0) l.length 0 := by
   show Prod.fst (scan _ _ _ _) = _
   rw [← scan_map Prod.fst]
   refine scan_congr _ _ (fun j _ _ => ?_) rfl
   cases fileS l j <;> rfl
  have hsnd : ∃ G',code.2 = S ++ G' := scan_pred (P := fun r : Int × List LV => ∃ G',r.2 = S ++ G') (fun j r h => by
   cases hj : fileS l j with
   | none => rw [hj] at h; cases h
   | some n => rw [hj] at h; cases h; exact ⟨_,rfl⟩) ⟨_,rfl⟩ _ _
  obtain ⟨G',hG⟩ := hsnd
  refine ⟨G',fun {R} K => ?_⟩
  rw [← hG]
  dsimp only
  rw [← hfst]
  unfold G.blob_CheckFiles.fn0
  dsimp only
  rw [List.length_map,show ((1000 : Int)) = ((1000 : Nat) : Int) from rfl,gt_nat,hc,ifB_false]
  refine Eq.trans ?_ (scan_map (fun r : Int × List LV => K (r.1,()) r.2) l.length 0)
  unfold newObj
  refine rounds_scan (fun i => (l.map File.lv,(sumB l i : Int),S.length,l.map File.lv,(l.length : Int),(i : Int),())) (fun i => S ++ [.mp .str (hasM l i)]) l.length _ _ (fun rec i hi => ?_) (fun rec => ?_) l.length 0 k (by omega) (by omega)
  ·unfold G.blob_CheckFiles.b0 G.blob_CheckFiles.q0 G.blob_CheckFiles.q1
   dsimp only
   have hsum := sumB_le l ok.b i (by omega)
   have hbi := ok.b _ (file_mem l i hi)
   have hw : IntKind.wrap .i64 ((sumB l i : Int) + ((bytesL (l.getD i .zero).b).length : Int)) = (sumB l (i + 1) : Int) := by
    rw [bytesL_len,wrap_id (by omega) (by omega)]; simp only [sumB]; omega
   rw [lt_nat,ifB_pos hi,idxL_nat (by simpa using hi),file_get _ _ hi,File.mat]
   simp only [List.getD_cons_zero,List.getD_cons_succ,asStr_str,asBool_bool,File.sl,hw,wrap_succ (show i < 9223372036854775807 by omega)]
   rw [prog_IsPath hk]
   dsimp only
   simp only [mpAt_at,setS,setLast]
   rw [bytesL_len,show ((100000 : Int)) = ((100000 : Nat) : Int) from rfl,gt_nat]
   have hprev : ∀ (h0 : 0 < i) (K' : LV → Option R),idxL (l.map File.lv) (IntKind.wrap .i64 ((i : Int) - 1)) K' = K' (l.getD (i - 1) .zero).lv := fun h0 K' => by
    rw [wrap_pred h0 (by omega),idxL_nat (by simp; omega),file_get _ _ (by omega)]
   have htail : ∀ (A J : Option R),ifB (decide ((i : Int) > 0)) (idxL (l.map File.lv) (IntKind.wrap .i64 ((i : Int) - 1)) fun v8 => asStr (leaf v8 0) fun s9 => ifB (strLt (l.getD i .zero).p s9 || strEq (l.getD i .zero).p s9) A J) J =
     match decide (0 < i) && (strLt (l.getD i .zero).p (l.getD (i - 1) .zero).p || strEq (l.getD i .zero).p (l.getD (i - 1) .zero).p) with | true => A | false => J := fun A J => by
    by_cases h0 : 0 < i
    ·rw [ifB_pos (show (i : Int) > 0 by omega),hprev h0,decide_eq_true h0]
     show ifB _ _ _ = _
     simp only [Bool.true_and]
     cases (strLt (l.getD i .zero).p (l.getD (i - 1) .zero).p || strEq (l.getD i .zero).p (l.getD (i - 1) .zero).p) <;> rfl
    ·rw [ifB_neg (show ¬ (i : Int) > 0 by omega),decide_eq_false h0]; rfl
   simp only [htail]
   unfold fileS
   generalize (decide (0 < i) && (strLt (l.getD i .zero).p (l.getD (i - 1) .zero).p || strEq (l.getD i .zero).p (l.getD (i - 1) .zero).p)) = b3
   generalize isPathS (l.getD i .zero).p = b1
   generalize decide ((l.getD i .zero).b.size > 100000) = b2
   cases b1 <;> cases b2 <;> cases b3 <;> rfl
  ·unfold G.blob_CheckFiles.b0
   dsimp only
   rw [lt_nat,ifB_neg (Nat.lt_irrefl _),List.length_map]
   refine Eq.trans ?_ (scan_map (fun n => K (n,()) (S ++ [.mp .str (hasM l l.length)])) (step := clashS l) l.length 0)
   refine rounds_scan0 (fun i => ((sumB l l.length : Int),S.length,l.map File.lv,(l.length : Int),(i : Int),())) _ l.length k _ _ (fun rec i hi => ?_) (fun rec => ?_) (by omega)
   ·unfold G.blob_CheckFiles.b1
    dsimp only
    rw [lt_nat,ifB_pos hi,idxL_nat (by simpa using hi),file_get _ _ hi,File.mat]
    simp only [List.getD_cons_zero,List.getD_cons_succ,asStr_str,asBool_bool,File.sl]
    rw [prog_clashes hk l _ (ok.p _ (file_mem l i hi)),wrap_succ (by omega)]
    unfold clashS
    cases clashB l (l.getD i .zero).p <;> rfl
   ·unfold G.blob_CheckFiles.b1
    dsimp only
    rw [lt_nat,ifB_neg (Nat.lt_irrefl _),show ((2000000 : Int)) = ((2000000 : Nat) : Int) from rfl,gt_nat]
    cases decide (sumB l l.length > 2000000) <;> rfl
theorem prog_CheckFiles {k : Nat} (hk : Many k) (l : List File) (ok : FilesOk l) (S : List LV) (K : Int × Unit → List LV → Option R) : G.blob_CheckFiles.fn k (l.map File.lv,()) S K = K (checkFilesS l,()) S := by
 obtain ⟨G',h⟩ := prog_CheckFiles0 hk l ok S
 exact popK_at (h _) rfl
end
end Go.Lm
set_option maxRecDepth 100000
namespace Go.Lm
section
variable {R : Type}
def fnvAt (b : ByteArray) : Nat → Int
 | 0 => 14695981039346656037
 | i + 1 => IntKind.wrap .u64 ((bitI .xor .u64 (fnvAt b i) (IntKind.wrap .u64 (bt b i))) * (1099511628211 : Int))
def fnvN (b : ByteArray) : Nat := (fnvAt b b.size).toNat
def nib (h j : Nat) : Nat := h / 16 ^ j % 16
def hexU (n : Nat) : UInt8 := ([48,49,50,51,52,53,54,55,56,57,97,98,99,100,101,102] : List UInt8).getD n 0
def digestS (b : ByteArray) : ByteArray := ⟨((List.range 16).map fun m => hexU (nib (fnvN b) (15 - m))).toArray⟩
end
end Go.Lm
set_option maxRecDepth 100000
namespace Go.Lm
section
variable {R : Type}
def atS (l : List File) (p : ByteArray) : Look := scan (fun i => match strEq (l.getD i .zero).p p with | true => some ⟨p,digestS (l.getD i .zero).b,(l.getD i .zero).r⟩ | false => none) ⟨p,bs [],false⟩ l.length 0
def Look.tup (x : Look) : (ByteArray × ByteArray × Bool × Unit) × Unit := ((x.p,x.d,x.r,()),())
end
end Go.Lm
set_option maxRecDepth 100000
namespace Go.Lm
section
variable {R : Type}
abbrev Look.zero : Look := ⟨bs [],bs [],false⟩
def looksAt (l : List Look) (files : List File) : List Look := l.map fun x => atS files x.p
theorem app_one {b : Nat} {ys : List LV} {x : LV} {K : List LV → Option R} (h : (ys.length + 1) * b ≤ 140737488355328) (h2 : ys.length + 1 ≤ 9223372036854775807) : app b ys [x] K = K (ys ++ [x]) := app_le h h2
def File.cp (x : File) : File := ⟨x.p,x.r,x.b,false,fun h => by cases h⟩
end
end Go.Lm
set_option maxRecDepth 100000
namespace Go.Lm
section
variable {R : Type}
theorem cloneL {n : Nat} {xs : List LV} (h : xs.length * n ≤ 140737488355328) (h2 : xs.length ≤ 9223372036854775807) : cloneF n (xs,()) = some (xs,()) := by
 unfold cloneF
 rw [Nat.zero_add,decide_eq_true ⟨h,h2⟩]
end
end Go.Lm
set_option maxRecDepth 100000
namespace Go.Lm
section
variable {R : Type}
def withinB (n a b : Int) : Bool := decide (n ≥ a) && decide (n ≤ b)
end
end Go.Lm
set_option maxRecDepth 100000
namespace Go.Lm
section
variable {R : Type}
def okB (c : Int) : Bool := (c == 10) || (decide (c ≥ 32) && decide (c ≤ 126))
def isTextS (s : ByteArray) : Bool := scan (fun i => match okB (bt s i) with | true => none | false => some false) (strEq s (bs []) || (bt s ((s.size - 1 : Nat) : Int) == 10)) s.size 0
theorem pred_bad (k x : Nat) : predA ((G.action_CheckResult_1.en (R := Bool) k).h) x = some (!(okB (x : Int))) := by
 show (G.action_CheckResult_1.fn k ((x : Int),()) [] fun r S => (match resE G.action_CheckResult_1.rs r with | .bool b => some b | _ => none) : Option Bool) = _
 unfold G.action_CheckResult_1.fn okB
 dsimp only
 have e1 : ((x : Int) != 10) = !((x : Int) == 10) := rfl
 rw [e1]
 cases ((x : Int) == 10) with
 | true => rfl
 | false =>
  by_cases h1 : (x : Int) < 32
  ·have h2 : ¬ ((x : Int) ≥ 32) := by omega
   rw [Bool.not_false,ifB_true,ifB_pos h1]
   simp only [h2,decide_false,Bool.false_and,Bool.or_false]
   rfl
  ·have h2 : (x : Int) ≥ 32 := by omega
   rw [Bool.not_false,ifB_true,ifB_neg h1]
   by_cases h3 : (x : Int) > 126
   ·have h4 : ¬ ((x : Int) ≤ 126) := by omega
    simp only [h3,h4,decide_false,decide_true,Bool.and_false,Bool.or_false]
    rfl
   ·have h4 : (x : Int) ≤ 126 := by omega
    simp only [h2,h3,h4,decide_false,decide_true,Bool.and_true,Bool.or_true]
    rfl
theorem idx_bad {p : Nat → Bool} (hp : ∀ x,x ≤ 1114111 → p x = !(okB (x : Int))) (s : ByteArray) : ∀ (f pos : Nat),s.size ≤ pos + f → decide (Lib.idxFuncFrom p true s f pos ≥ 0) = scan (fun i => match okB (bt s i) with | true => none | false => some true) false (s.size - pos) pos
 | 0,pos,h => by
  have : s.size - pos = 0 := by omega
  rw [this]; rfl
 | f + 1,pos,h => by
  unfold Lib.idxFuncFrom
  by_cases hps : pos < s.size
  ·obtain ⟨d,hd⟩ : ∃ d,s.size - pos = d + 1 := ⟨s.size - pos - 1,by omega⟩
   rw [if_pos hps,hd]
   simp only [scan]
   rw [hp _ (Lib.rune_le s pos)]
   have hb := bt_nat hps
   rcases Nat.lt_or_ge (s[pos]'hps).toNat 128 with h1 | h1
   ·rw [decode_ascii s pos hps h1,← hb]
    cases ho : okB (bt s pos) with
    | true =>
     have ih := idx_bad hp s f (pos + 1) (by omega)
     have : s.size - (pos + 1) = d := by omega
     rw [this] at ih
     simpa using ih
    | false => simp
   ·obtain ⟨h2,_⟩ := decode_high s pos hps h1
    have h3 : okB (((Utf8.decode s pos).1 : Nat) : Int) = false := by
     unfold okB
     have e1 : ¬ ((((Utf8.decode s pos).1 : Nat) : Int) ≤ 126) := by omega
     have e2 : ((((Utf8.decode s pos).1 : Nat) : Int) == 10) = false := by simp; omega
     rw [e2]; simp only [e1,decide_false,Bool.and_false,Bool.or_false]
    have h4 : okB (bt s pos) = false := by
     rw [hb]
     unfold okB
     have e1 : ¬ (((s[pos]'hps).toNat : Int) ≤ 126) := by omega
     have e2 : (((s[pos]'hps).toNat : Int) == 10) = false := by simp; omega
     rw [e2]; simp only [e1,decide_false,Bool.and_false,Bool.or_false]
    rw [h3,h4]
    simp
  ·have : s.size - pos = 0 := by omega
   rw [if_neg hps,this]; rfl
def badB (s : ByteArray) : Bool := scan (fun i => match okB (bt s i) with | true => none | false => some true) false s.size 0
theorem prog_ContainsFunc (k : Nat) (s : ByteArray) (S : List LV) (K : Bool × Unit → List LV → Option R) : G.strings_ContainsFunc_at_action_CheckResult_1.fn k (s,(),()) S K = K (badB s,()) S := by
 unfold G.strings_ContainsFunc_at_action_CheckResult_1.fn G.strings_IndexFunc_at_action_CheckResult_1.fn H.indexFunc_at_action_CheckResult_1.fn H.indexFunc.fn handF idxFF
 dsimp only
 have hok : H.indexFuncOk ((G.action_CheckResult_1.en (R := Bool) k).h) := fun x _ => by rw [pred_bad]; simp
 rw [show (Classical.propDecidable (H.indexFuncOk ((G.action_CheckResult_1.en (R := Bool) k).h))).decide = true from @decide_eq_true _ (Classical.propDecidable _) hok]
 dsimp only
 have h := idx_bad (p := fun x => (predA ((G.action_CheckResult_1.en (R := Bool) k).h) x).getD false) (fun x _ => by simp only [pred_bad]; rfl) s s.size 0 (by omega)
 rw [Nat.sub_zero] at h
 unfold badB
 rw [← h]
 rfl
end
end Go.Lm
set_option maxRecDepth 100000
namespace Go.Lm
section
variable {R : Type}
structure Res where
 code : Int
 text : ByteArray
 files : List File
 looks : List Look
 cmd : Int
abbrev Res.tup (x : Res) : Int × ByteArray × List LV × List LV × Int × Unit := (x.code,x.text,x.files.map File.lv,x.looks.map Look.lv,x.cmd,())
def tailS (x : Res) : Int := match checkFilesS x.files == 0 with
 | false => checkFilesS x.files
 | true => match decide (x.files.length > 0) && (x.code != 0) with
  | true => 3
  | false => checkLooksS x.looks
def checkResS (x : Res) : Int := match withinB x.code 0 999999 && withinB x.cmd 0 50 with
 | false => 1
 | true => match decide (x.text.size > 100000) with
  | true => 2
  | false => match isTextS x.text with
   | false => 3
   | true => tailS x
structure ResOk (x : Res) : Prop where
 t : x.text.size ≤ 140737488355328
 f : FilesOk x.files
 d : ∀ y ∈ x.looks,y.d.size ≤ 140737488355328
theorem prog_HasSuffix (k : Nat) (s : ByteArray) (hs : s.size ≤ 140737488355328) (h0 : 0 < s.size) (S : List LV) (K : Bool × Unit → List LV → Option R) : G.strings_HasSuffix.fn k (s,bs [10],()) S K = K (bt s ((s.size - 1 : Nat) : Int) == 10,()) S := by
 unfold G.strings_HasSuffix.fn G.internal_stringslite_HasSuffix.fn
 dsimp only
 have e1 : ((bs [10]).size : Int) = 1 := rfl
 rw [e1,ifB_pos (by omega),wrap_pred h0 (by omega)]
 unfold slStr
 rw [ifB_pos ⟨by omega,by omega,by omega⟩]
 have e2 : strEq (s.extract ((s.size - 1 : Nat) : Int).toNat ((s.size : Int)).toNat) (bs [10]) = (bt s ((s.size - 1 : Nat) : Int) == 10) := by
  have hlt : s.size - 1 < s.size := by omega
  have e3 : s.extract (s.size - 1) s.size = ⟨#[s[s.size - 1]'hlt]⟩ := by
   apply ba_ext
   apply List.ext_getElem?
   intro i
   have hd : s.data.size = s.size := rfl
   simp only [ByteArray.data_extract,Array.toList_extract,List.extract_eq_take_drop]
   rcases Nat.eq_zero_or_pos i with rfl | hi
   ·rw [List.getElem?_take_of_lt (by omega),List.getElem?_drop]
    simp [hd,hlt]
    rfl
   ·rw [List.getElem?_eq_none (by simp; omega),List.getElem?_eq_none (by simp; omega)]
  rw [Int.toNat_natCast,Int.toNat_natCast,e3,bt_nat hlt,Bool.eq_iff_iff,strEq_iff,beq_iff_eq]
  constructor
  ·intro h
   have h2 : [s[s.size - 1]'hlt] = [(10 : UInt8)] := congrArg (fun b : ByteArray => b.data.toList) h
   have h3 : s[s.size - 1]'hlt = 10 := List.head_eq_of_cons_eq h2
   rw [h3]; rfl
  ·intro h
   have h3 : s[s.size - 1]'hlt = 10 := by
    apply UInt8.toNat_inj.1
    have : (s[s.size - 1]'hlt).toNat = 10 := by omega
    rw [this]; rfl
   rw [h3]
   rfl
 show K (strEq _ _,()) S = _
 rw [e2]
theorem text_bad (s : ByteArray) : isTextS s = (!(badB s) && (strEq s (bs []) || (bt s ((s.size - 1 : Nat) : Int) == 10))) := by
 unfold isTextS badB
 generalize (strEq s (bs []) || (bt s ((s.size - 1 : Nat) : Int) == 10)) = fin
 have : ∀ (d i : Nat),scan (fun i => match okB (bt s i) with | true => none | false => some false) fin d i = (!(scan (fun i => match okB (bt s i) with | true => none | false => some true) false d i) && fin) := by
  intro d
  induction d with
  | zero => intro i; simp [scan]
  | succ d ih =>
   intro i
   simp only [scan]
   cases okB (bt s i) with
   | true => exact ih _
   | false => rfl
 exact this _ _
end
end Go.Lm
set_option maxRecDepth 100000
namespace Go.Lm
section
variable {R : Type}
def midS (x : Res) (b : Bool) (Jn Jr : Int → Option R) : Option R := match b with
 | true => Jr 1
 | false => match decide (x.text.size > 100000) with
  | true => Jr 2
  | false => match isTextS x.text with
   | false => Jr 3
   | true => Jn 0
theorem q0_at (k : Nat) (x : Res) (ok : ResOk x) (b : Bool) (S : List LV) (Jn : (Int × ByteArray × List LV × List LV × Int × Unit) × Unit → List LV → Option R) (Jr : Int × Unit → List LV → Option R) :
  G.action_CheckResult.q0 k Jn Jr (x.tup,b,()) S = midS x b (fun _ => Jn (x.tup,()) S) (fun n => Jr (n,()) S) := by
 unfold G.action_CheckResult.q0 midS
 dsimp only
 cases b with
 | true => rfl
 | false =>
  have e1 : decide ((x.text.size : Int) > (100000 : Int)) = decide (x.text.size > 100000) := gt_nat _ 100000
  rw [ifB_false,e1]
  cases decide (x.text.size > 100000) with
  | true => rfl
  | false =>
   rw [ifB_false,prog_ContainsFunc,text_bad]
   dsimp only
   cases badB x.text with
   | true => rfl
   | false =>
    rw [ifB_false,Bool.not_false,Bool.true_and]
    cases he : strEq x.text (bs []) with
    | true => rfl
    | false =>
     have h0 : 0 < x.text.size := by
      rcases Nat.eq_zero_or_pos x.text.size with h | h
      ·have : x.text = bs [] := ba_ext (by
        have : x.text.data.toList.length = 0 := by rw [ba_len]; exact h
        rw [List.eq_nil_of_length_eq_zero this]; rfl)
       rw [(strEq_iff _ _).2 this] at he; cases he
      ·exact h
     rw [Bool.not_false,ifB_true,prog_HasSuffix k _ ok.t h0,Bool.false_or]
     dsimp only
     cases (bt x.text ((x.text.size - 1 : Nat) : Int) == 10) <;> rfl
theorem q2_at {k : Nat} (hk : Many k) (x : Res) (ok : ResOk x) (S : List LV) (Jr : Int × Unit → List LV → Option R) : G.action_CheckResult.q2 k Jr (x.tup,()) S = Jr (tailS x,()) S := by
 unfold G.action_CheckResult.q2 tailS
 dsimp only
 rw [prog_CheckFiles hk _ ok.f]
 unfold G.action_CheckResult.q3
 dsimp only
 have h0 : ∀ n : Int,(n != 0) = !(n == 0) := fun n => rfl
 rw [h0]
 cases hc : checkFilesS x.files == 0 with
 | false => rfl
 | true =>
  rw [Bool.not_true,ifB_false]
  unfold G.action_CheckResult.q4 G.action_CheckResult.q1
  dsimp only
  have e2 : decide (((x.files.map File.lv).length : Int) > (0 : Int)) = decide (x.files.length > 0) := by rw [List.length_map]; exact gt_nat _ 0
  rw [e2,prog_CheckLooks hk]
  cases decide (x.files.length > 0) <;> cases (x.code != 0) <;> rfl
theorem prog_CheckResult {k : Nat} (hk : Many k) (x : Res) (ok : ResOk x) (S : List LV) (K : Int × Unit → List LV → Option R) : G.action_CheckResult.fn k (x.tup,()) S K = K (checkResS x,()) S := by
 unfold G.action_CheckResult.fn
 dsimp only
 simp only [q0_at k x ok,q2_at hk x ok]
 unfold checkResS withinB
 by_cases h1 : x.code < 0
 ·have h2 : ¬ (x.code ≥ 0) := by omega
  rw [ifB_pos h1]
  simp only [h2,decide_false,Bool.false_and]
  rfl
 ·have h2 : x.code ≥ 0 := by omega
  rw [ifB_neg h1]
  by_cases h3 : x.code > 999999
  ·have h4 : ¬ (x.code ≤ 999999) := by omega
   rw [ifB_pos h3]
   simp only [h4,decide_false,Bool.and_false,Bool.false_and]
   rfl
  ·have h4 : x.code ≤ 999999 := by omega
   rw [ifB_neg h3]
   by_cases h5 : x.cmd < 0
   ·have h6 : ¬ (x.cmd ≥ 0) := by omega
    rw [ifB_pos h5]
    simp only [h6,decide_false,Bool.false_and,Bool.and_false]
    rfl
   ·have h6 : x.cmd ≥ 0 := by omega
    rw [ifB_neg h5]
    by_cases h7 : x.cmd > 50
    ·have h8 : ¬ (x.cmd ≤ 50) := by omega
     simp only [h2,h4,h6,h7,h8,decide_false,decide_true,Bool.and_false,Bool.and_true]
     rfl
    ·have h8 : x.cmd ≤ 50 := by omega
     simp only [h2,h4,h6,h7,h8,decide_false,decide_true,Bool.and_true,midS]
     cases decide (x.text.size > 100000) with
     | true => rfl
     | false => cases isTextS x.text <;> rfl
end
end Go.Lm
namespace Go.Lm
abbrev Bs := List UInt8
def digB (b : UInt8) : Bool := decide (48 ≤ b.toNat) && decide (b.toNat ≤ 57)
theorem digB_val {b : UInt8} (h : digB b = true) : Lib.digitVal b = some (b.toNat - 48) := by
 unfold digB at h
 simp only [Bool.and_eq_true,decide_eq_true_eq] at h
 unfold Lib.digitVal
 rw [if_pos h]
def valL (l : Bs) : Nat := (Lib.decFrom 0 l).getD 0
theorem decFrom_all : ∀ (l : Bs) (acc : Nat),l.all digB = true → ∃ n,Lib.decFrom acc l = some n
 | [],acc,_ => ⟨acc,rfl⟩
 | a :: l,acc,h => by
  simp only [List.all_cons,Bool.and_eq_true] at h
  simp only [Lib.decFrom,digB_val h.1]
  exact decFrom_all l _ h.2
theorem decFrom_val {l : Bs} (h : l.all digB = true) : Lib.decFrom 0 l = some (valL l) := by
 obtain ⟨n,hn⟩ := decFrom_all l 0 h
 unfold valL
 rw [hn]; rfl
def isNumL (l : Bs) (d : Nat) : Bool := decide (1 ≤ l.length) && (decide (l.length ≤ d) && (l.all digB && (decide (l.head? ≠ some 48) || decide (l.length = 1))))
theorem isNumL_iff (l : Bs) (d : Nat) : isNumL l d = true ↔ (1 ≤ l.length ∧ l.length ≤ d ∧ l.all digB = true ∧ (l.head? ≠ some 48 ∨ l.length = 1)) := by
 unfold isNumL
 simp only [Bool.and_eq_true,Bool.or_eq_true,decide_eq_true_eq]
theorem valL_lt {l : Bs} (h : l.all digB = true) : valL l < 10 ^ l.length := by
 have := Lib.decFrom_lt l 0 _ (decFrom_val h)
 simpa using this
end Go.Lm
set_option maxRecDepth 100000
namespace Go.Lm
def toL (s : ByteArray) : Bs := s.data.toList
def ofL (l : Bs) : ByteArray := ⟨l.toArray⟩
@[simp] theorem ofL_toL (s : ByteArray) : ofL (toL s) = s := by cases s; rfl
theorem toL_len (s : ByteArray) : (toL s).length = s.size := by unfold toL; rw [Array.length_toList]; rfl
theorem toL_app (a b : ByteArray) : toL (a ++ b) = toL a ++ toL b := by unfold toL; simp
theorem toL_inj {a b : ByteArray} (h : toL a = toL b) : a = b := by rw [← ofL_toL a,← ofL_toL b,h]
theorem toL_extract (s : ByteArray) (i j : Nat) : toL (s.extract i j) = ((toL s).drop i).take (j - i) := by
 unfold toL
 simp only [ByteArray.data_extract,Array.toList_extract,List.extract_eq_take_drop]
def isNumS (s : ByteArray) (d : Nat) : Bool := isNumL (toL s) d
def numV (s : ByteArray) : Int := (valL (toL s) : Int)
end Go.Lm
set_option maxRecDepth 100000
namespace Go.Lm
section
variable {R : Type}
theorem index_at {k : Nat} (hk : Many k) (l : List ByteArray) (hl : l.length ≤ 140737488355328) (w : ByteArray) (S : List LV) (K : Int × Unit → List LV → Option R) :
  G.slices_Index_s_string_string.fn k (l.map LV.str,w,()) S K = K (scan (fun i => match strEq w (l.getD i (bs [])) with | true => some (i : Int) | false => none) (-1) l.length 0,()) S := by
 unfold Many at hk
 unfold G.slices_Index_s_string_string.fn
 dsimp only
 rw [← scan_map (fun n : Int => K (n,()) S),List.length_map]
 refine rounds_scan0 (fun i => (l.map LV.str,w,(l.length : Int),(i : Int),())) S l.length k _ _ (fun rec i hi => ?_) (fun rec => ?_) (by omega)
 ·unfold G.slices_Index_s_string_string.b0
  dsimp only
  rw [lt_nat,ifB_pos hi,idxL_nat (by simpa using hi),map_str_get l i hi]
  show ifB (strEq w (l.getD i (bs []))) _ _ = _
  rw [wrap_succ (by omega)]
  cases strEq w (l.getD i (bs [])) <;> rfl
 ·unfold G.slices_Index_s_string_string.b0
  dsimp only
  rw [lt_nat,ifB_neg (Nat.lt_irrefl _)]
theorem scan_any (p : Nat → Bool) : ∀ (d i : Nat),decide (scan (fun j => match p j with | true => some (j : Int) | false => none) (-1) d i ≥ 0) = (List.range' i d).any p
 | 0,i => rfl
 | d + 1,i => by
  have ih := scan_any p d (i + 1)
  rw [List.range'_succ,List.any_cons,← ih]
  by_cases h : p i = true
  ·simp [scan,h]
  ·have h : p i = false := by simpa using h
   simp [scan,h]
theorem any_range {α : Type} (z : α) (p : α → Bool) : ∀ (l : List α) (m : List α),(List.range' m.length l.length).any (fun j => p ((m ++ l).getD j z)) = l.any p
 | [],m => rfl
 | x :: l,m => by
  simp only [List.length_cons,List.range'_succ,List.any_cons]
  have e : (m ++ x :: l).getD m.length z = x := by simp [List.getD_eq_getElem?_getD]
  rw [e]
  have := any_range z p l (m ++ [x])
  simp only [List.length_append,List.length_cons,List.length_nil,Nat.zero_add,List.append_assoc,List.cons_append,List.nil_append] at this
  rw [this]
theorem contains_at {k : Nat} (hk : Many k) (l : List ByteArray) (hl : l.length ≤ 140737488355328) (w : ByteArray) (S : List LV) (K : Bool × Unit → List LV → Option R) :
  G.slices_Contains_s_string_string.fn k (l.map LV.str,w,()) S K = K (l.any (strEq w),()) S := by
 unfold G.slices_Contains_s_string_string.fn
 try dsimp only
 rw [index_at hk l hl]
 dsimp only
 rw [scan_any (fun j => strEq w (l.getD j (bs []))),← List.range_eq_range']
 have := any_range (bs []) (strEq w) l []
 simp only [List.length_nil,List.nil_append] at this
 rw [List.range_eq_range',this]
theorem dig_key (b : UInt8) : (bs [48,49,50,51,52,53,54,55,56,57]).data.toList.contains b = digB b := by
 have key : ∀ n : Fin 256,(bs [48,49,50,51,52,53,54,55,56,57]).data.toList.contains (n.val.toUInt8) = digB (n.val.toUInt8) := by decide +kernel
 have := key ⟨b.toNat,b.toNat_lt⟩
 simpa only [Nat.toUInt8,UInt8.ofNat_toNat] using this
theorem trim_dig (k : Nat) (s : ByteArray) (hs : s.size ≤ 140737488355328) : ∃ t,strEq t (bs []) = (toL s).all digB ∧ ∀ (S : List LV) (K : ByteArray × Unit → List LV → Option R),H.Trim.fn k (s,bs [48,49,50,51,52,53,54,55,56,57],()) S K = K (t,()) S := by
 have : (decide (s.size ≤ 9223372036854775807) && decide ((bs [48,49,50,51,52,53,54,55,56,57]).size < 4294967281) && (bs [48,49,50,51,52,53,54,55,56,57]).data.toList.all (fun b => decide (b.toNat < 128))) = true := by
  rw [decide_eq_true (by omega)]; decide +kernel
 refine ⟨_,?_,fun S K => by unfold H.Trim.fn handF trimF; dsimp only; rw [this]⟩
 rw [Bool.eq_iff_iff,strEq_iff]
 have e : Lib.trimS s.data.toList (bs [48,49,50,51,52,53,54,55,56,57]).data.toList = [] ↔ (toL s).all digB = true := by
  rw [trim_nil]
  simp only [dig_key]
  rfl
 rw [← e]
 constructor
 ·intro h
  have := congrArg toL h
  simpa [toL,bs] using this
 ·intro h; rw [h]; rfl
theorem bt_zero {s : ByteArray} {b : UInt8} {t : Bs} (h : toL s = b :: t) : bt s 0 = (b.toNat : Int) := by
 have hl : 0 < s.size := by rw [← toL_len,h]; simp
 have := bt_nat hl
 rw [show ((0 : Nat) : Int) = 0 from rfl] at this
 rw [this]
 have h5 : (toL s)[0]? = some (s[0]'hl) := by
  unfold toL
  rw [Array.getElem?_toList]
  exact Array.getElem?_eq_getElem hl
 rw [h] at h5
 have e : b = s[0]'hl := by simpa using h5
 rw [e]
theorem isNum_cons {b : UInt8} {t : Bs} {d : Nat} (hd : t.length + 1 ≤ d) (ha : (b :: t).all digB = true) : isNumL (b :: t) d = (decide (b ≠ 48) || decide (t = [])) := by
 unfold isNumL
 rw [decide_eq_true (show 1 ≤ (b :: t).length by simp),decide_eq_true (show (b :: t).length ≤ d by simpa using hd),ha]
 simp only [Bool.true_and,List.head?_cons,ne_eq,Option.some.injEq,List.length_cons]
 congr 1
 cases t <;> simp
theorem isNumber_at (k : Nat) (s : ByteArray) (d : Nat) (hs : s.size ≤ 140737488355328) (S : List LV) (K : Bool × Unit → List LV → Option R) : G.action_isNumber.fn k (s,(d : Int),()) S K = K (isNumS s d,()) S := by
 unfold G.action_isNumber.fn isNumS
 dsimp only
 have el := toL_len s
 by_cases h1 : 1 ≤ s.size
 ·rw [ifB_pos (show (s.size : Int) ≥ 1 by omega)]
  by_cases h2 : s.size ≤ d
  ·obtain ⟨t,ht,htr⟩ := trim_dig (R := R) k s hs
   rw [ifB_pos (show (s.size : Int) ≤ (d : Int) by omega),htr]
   dsimp only
   rw [ht]
   cases ha : (toL s).all digB with
   | false =>
    have : isNumL (toL s) d = false := by unfold isNumL; rw [ha]; simp
    rw [this]; rfl
   | true =>
    rw [ifB_true]
    cases hb : toL s with
    | nil => rw [hb] at el; simp at el; omega
    | cons b t =>
     have e0 : idxStr s 0 = fun (K : Int → Option R) => K (bt s 0) := by
      funext K
      exact idxStr_nat (i := 0) (by omega) K
     rw [e0]
     dsimp only
     rw [bt_zero hb,isNum_cons (by rw [hb] at el; simp at el; omega) (by rw [← hb]; exact ha)]
     have e1 : ((b.toNat : Int) != 48) = decide (b ≠ 48) := by
      by_cases hq : b = 48
      ·subst hq; rfl
      ·have h9 : b.toNat ≠ 48 := fun e => hq (UInt8.toNat_inj.1 e)
       have h8 : ((b.toNat : Int) == 48) = false := by rw [beq_eq_false_iff_ne]; omega
       rw [decide_eq_true hq]
       show (!((b.toNat : Int) == 48)) = true
       rw [h8]; rfl
     rw [e1]
     by_cases h48 : b = 48
     ·subst h48
      simp only [ne_eq,not_true_eq_false,decide_false,Bool.false_or,ifB_false]
      congr 2
      rw [Bool.eq_iff_iff,strEq_iff,decide_eq_true_eq]
      constructor
      ·intro h
       have := congrArg toL h
       rw [hb] at this
       have h3 := congrArg List.tail this
       simpa [bs,toL] using h3
      ·intro h
       subst h
       exact toL_inj hb
     ·simp [h48]
  ·rw [ifB_neg (show ¬ (s.size : Int) ≤ (d : Int) by omega)]
   have : isNumL (toL s) d = false := by unfold isNumL; rw [decide_eq_false (show ¬ (toL s).length ≤ d by omega)]; simp
   rw [this]
 ·rw [ifB_neg (show ¬ (s.size : Int) ≥ 1 by omega)]
  have : isNumL (toL s) d = false := by unfold isNumL; rw [decide_eq_false (show ¬ 1 ≤ (toL s).length by omega)]; simp
  rw [this]
theorem atoiAll_num {l : Bs} (h0 : 1 ≤ l.length) (h18 : l.length ≤ 18) (h : l.all digB = true) : Lib.atoiAll l = .ok (valL l : Int) := by
 have key : ∀ (l : Bs) (acc u : Nat),l.all digB = true → Lib.decFrom acc l = some u → u < 1000000000000000000 → Lib.parseUint10 acc l = .ok u := by
  intro l
  induction l with
  | nil => intro acc u _ h _; cases h; rfl
  | cons b t ih =>
   intro acc u ha h hu
   simp only [List.all_cons,Bool.and_eq_true] at ha
   have hb := ha.1
   have hv := digB_val hb
   unfold digB at hb
   simp only [Bool.and_eq_true,decide_eq_true_eq] at hb
   simp only [Lib.decFrom,hv] at h
   have hmono : ∀ (l : Bs) (a u : Nat),Lib.decFrom a l = some u → a ≤ u := by
    intro l
    induction l with
    | nil => intro a u h; cases h; exact Nat.le_refl _
    | cons c t ih =>
     intro a u h
     simp only [Lib.decFrom] at h
     cases hd : Lib.digitVal c with
     | none => rw [hd] at h; cases h
     | some d => rw [hd] at h; have := ih _ _ h; omega
   have h1 := hmono t _ _ h
   have := ih _ u ha.2 h hu
   unfold Lib.parseUint10
   rw [if_pos hb,if_neg (by omega),if_neg (by omega)]
   exact this
 have hv := decFrom_val h
 have hlt := valL_lt h
 have hp : 10 ^ l.length ≤ 10 ^ 18 := Nat.pow_le_pow_right (by decide) h18
 have hu : valL l < 1000000000000000000 := Nat.lt_of_lt_of_le hlt hp
 have hpu := key l 0 _ h hv hu
 cases l with
 | nil => simp at h0
 | cons b t =>
  have hb : digB b = true := by simp only [List.all_cons,Bool.and_eq_true] at h; exact h.1
  unfold digB at hb
  simp only [Bool.and_eq_true,decide_eq_true_eq] at hb
  have hm : Lib.parseMag (b :: t) = .ok (valL (b :: t)) := by
   unfold Lib.parseMag
   simpa using hpu
  unfold Lib.atoiAll
  have e1 : ¬ (b.toNat = 43 ∨ b.toNat = 45) := by omega
  have e2 : ¬ (b.toNat = 45) := by omega
  have hu2 : ¬ (9223372036854775808 ≤ valL (b :: t)) := by omega
  dsimp only
  rw [if_neg e1,hm]
  simp only [e2,hu2,if_false,and_false,false_and]
theorem Atoi_at (k : Nat) {s : ByteArray} {d : Nat} (hd : d ≤ 18) (h : isNumS s d = true) (S : List LV) (K : Int × LV × Unit → List LV → Option R) : H.Atoi.fn k (s,()) S K = K (numV s,.nili,()) S := by
 unfold isNumS at h
 rw [isNumL_iff] at h
 obtain ⟨h1,h2,h3,_⟩ := h
 have e : Lib.atoiAll s.data.toList = .ok (valL (toL s) : Int) := atoiAll_num h1 (show (toL s).length ≤ 18 by omega) h3
 unfold H.Atoi.fn atoiF
 dsimp only
 rw [e]
 have hs := toL_len s
 dsimp only
 have h9 : s.size ≤ 9223372036854775806 := by omega
 rw [decide_eq_true h9]
 rfl
end
end Go.Lm
set_option maxRecDepth 100000
namespace Go.Lm
section
variable {R : Type}
theorem idx_str0 (a : ByteArray) (l : List ByteArray) (K : LV → Option R) : idxL ((a :: l).map LV.str) 0 K = K (.str a) := idxL_nat (xs := (a :: l).map LV.str) (i := 0) (by simp) K
theorem idx_str1 (a b : ByteArray) (l : List ByteArray) (K : LV → Option R) : idxL ((a :: b :: l).map LV.str) 1 K = K (.str b) := idxL_nat (xs := (a :: b :: l).map LV.str) (i := 1) (by simp) K
theorem asLeaf_str (a : ByteArray) (K : ByteArray → Option R) : asStr (leaf (.str a) 0) K = K a := rfl
def ow (e z : Nat) (l : List LV) : LV := match l with
 | [] => .nilsl
 | l => .own e z l
theorem at_of {S : List LV} {id t : Nat} {xs : List LV} (h : S.getD id .any = .obj t xs) (K : (List LV → LV) → List LV → Option R) : objAt S id K = K (.obj t) xs := by
 unfold objAt
 rw [h]
theorem lt_of {S : List LV} {id t : Nat} {xs : List LV} (h : S.getD id .any = .obj t xs) : id < S.length := by
 rcases Nat.lt_or_ge id S.length with h1 | h1
 ·exact h1
 ·rw [List.getD_eq_getElem?_getD,List.getElem?_eq_none h1] at h; cases h
theorem has_set {S : List LV} {id t : Nat} {xs : List LV} (h : S.getD id .any = .obj t xs) (v : LV) : (S.set id v).getD id .any = v := by
 have := lt_of h
 simp [List.getD_eq_getElem?_getD,this]
theorem other_set {S : List LV} {id id' : Nat} (h : id ≠ id') (v : LV) : (S.set id v).getD id' .any = S.getD id' .any := by
 simp only [List.getD_eq_getElem?_getD,List.getElem?_set_ne h]
theorem ref_bytesIn {k : Nat} (hk : Many k) (s : ByteArray) (hs : s.size ≤ 140737488355328) (lo hi : Int) (S : List LV) (K : Bool × Unit → List LV → Option R) :
  G.smithyardref5_bytesIn.fn k (s,lo,hi,()) S K = K (scan (fun i => match decide (lo ≤ bt s i) && decide (bt s i ≤ hi) with | true => none | false => some false) true s.size 0,()) S := by
 unfold Many at hk
 unfold G.smithyardref5_bytesIn.fn
 dsimp only
 rw [← scan_map (fun b => K (b,()) S)]
 refine rounds_scan0 (fun i => (s,lo,hi,(i : Int),())) S s.size k _ _ (fun rec i hi' => ?_) (fun rec => ?_) (by omega)
 ·unfold G.smithyardref5_bytesIn.b0
  dsimp only
  rw [lt_nat,ifB_pos hi',idxStr_nat hi',idxStr_nat hi',wrap_succ (by omega)]
  by_cases h1 : bt s (i : Int) < lo
  ·have h2 : ¬ (lo ≤ bt s (i : Int)) := by omega
   simp [h1,h2]
  ·have h2 : lo ≤ bt s (i : Int) := by omega
   by_cases h3 : bt s (i : Int) > hi
   ·have h4 : ¬ (bt s (i : Int) ≤ hi) := by omega
    simp [h1,h2,h3,h4]
   ·have h4 : bt s (i : Int) ≤ hi := by omega
    simp [h1,h2,h3,h4]
 ·unfold G.smithyardref5_bytesIn.b0
  dsimp only
  rw [lt_nat,ifB_neg (Nat.lt_irrefl _)]
theorem dig_scan (s : ByteArray) : scan (fun i => match decide (48 ≤ bt s i) && decide (bt s i ≤ 57) with | true => none | false => some false) true s.size 0 = (toL s).all digB := by
 have := all_bytes s (fun c => decide (48 ≤ c) && decide (c ≤ 57))
 refine Eq.trans (Eq.symm this) ?_
 show (toL s).all _ = _
 congr 1
 funext b
 unfold digB
 rw [Bool.eq_iff_iff]
 simp only [Bool.and_eq_true,decide_eq_true_eq]
 omega
def numD (w : ByteArray) (d : Nat) : Int := match isNumS w d with
 | true => numV w
 | false => 0
theorem ref_numberedD {k : Nat} (hk : Many k) (w : ByteArray) (d : Nat) (hd : d ≤ 18) (hw : w.size ≤ 140737488355328) (S : List LV) (K : Int × Bool × Unit → List LV → Option R) : G.smithyardref5_numbered.fn k (w,(d : Int),()) S K = K (numD w d,isNumS w d,()) S := by
 unfold G.smithyardref5_numbered.fn G.smithyardref5_numbered.q0 G.smithyardref5_numbered.q1
 dsimp only
 simp only [ref_bytesIn hk w (by omega),dig_scan]
 have hl := toL_len w
 have no : ∀ b : Bool,b = false → isNumS w d = b → K (0,false,()) S = K (numD w d,isNumS w d,()) S := fun b hb h => by
  unfold numD
  rw [h,hb]
 by_cases h0 : w.size = 0
 ·have e0 : strEq w (bs []) = true := by
   rw [strEq_iff]
   exact toL_inj (by rw [List.eq_nil_of_length_eq_zero (by omega : (toL w).length = 0)]; rfl)
  rw [e0,ifB_true]
  refine no false rfl ?_
  unfold isNumS isNumL
  rw [decide_eq_false (by omega)]; rfl
 ·have e0 : strEq w (bs []) = false := by
   rw [← Bool.not_eq_true,strEq_iff]
   intro h; rw [h] at h0; exact h0 rfl
  rw [e0,ifB_false]
  by_cases h9 : w.size ≤ d
  ·rw [ifB_neg (show ¬ ((w.size : Int) > (d : Int)) by omega)]
   cases hb : toL w with
   | nil => rw [hb] at hl; simp at hl; omega
   | cons c t =>
    rw [hb] at hl
    simp only [List.length_cons] at hl
    cases ha : (c :: t).all digB with
    | false =>
     have hn : isNumS w d = false := by unfold isNumS isNumL; rw [hb,ha]; simp
     rw [Bool.not_false,ifB_true]
     by_cases h1 : w.size > 1
     ·rw [ifB_pos (show (w.size : Int) > 1 by omega)]
      have e1 : ∀ K : Int → Option R,idxStr w 0 K = K (bt w 0) := fun K => idxStr_nat (i := 0) (by omega) K
      rw [e1]
      cases bt w 0 == 48 with
      | true => exact no false rfl hn
      | false => exact no false rfl hn
     ·rw [ifB_neg (show ¬ (w.size : Int) > 1 by omega)]
      exact no false rfl hn
    | true =>
     have hnum := isNum_cons (d := d) (by omega) ha
     have hn : isNumS w d = (decide (c ≠ 48) || decide (t = [])) := by unfold isNumS; rw [hb]; exact hnum
     rw [Bool.not_true,ifB_false]
     by_cases h1 : w.size > 1
     ·rw [ifB_pos (show (w.size : Int) > 1 by omega)]
      have e1 : ∀ K : Int → Option R,idxStr w 0 K = K (bt w 0) := fun K => idxStr_nat (i := 0) (by omega) K
      rw [e1,bt_zero hb]
      have ht : t ≠ [] := fun e => by rw [e] at hl; simp at hl; omega
      by_cases h48 : c = 48
      ·subst h48
       have e2 : (((48 : UInt8).toNat : Int) == 48) = true := rfl
       rw [e2,ifB_true]
       refine no false rfl ?_
       rw [hn]; simp [ht]
      ·have h7 : c.toNat ≠ 48 := fun e => h48 (UInt8.toNat_inj.1 e)
       have e2 : ((c.toNat : Int) == 48) = false := by rw [beq_eq_false_iff_ne]; omega
       have hy : isNumS w d = true := by rw [hn]; simp [h48]
       rw [e2,ifB_false,Atoi_at k (d := d) hd hy]
       unfold numD
       rw [hy]
     ·rw [ifB_neg (show ¬ (w.size : Int) > 1 by omega)]
      have ht : t = [] := List.eq_nil_of_length_eq_zero (by omega)
      have hy : isNumS w d = true := by rw [hn]; simp [ht]
      rw [Atoi_at k (d := d) hd hy]
      unfold numD
      rw [hy]
  ·rw [ifB_pos (show (w.size : Int) > (d : Int) by omega)]
   refine no false rfl ?_
   unfold isNumS isNumL
   rw [decide_eq_false (show ¬ (toL w).length ≤ d by omega)]
   simp
end
end Go.Lm
set_option maxRecDepth 100000
namespace Go.Lm
section
variable {R : Type}
def allB (lo hi : Int) (s : ByteArray) : Bool := scan (fun i => cond (decide (lo ≤ bt s i) && decide (bt s i ≤ hi)) none (some false)) true s.size 0
theorem ref_allB {k : Nat} (hk : Many k) (s : ByteArray) (hs : s.size ≤ 140737488355328) (lo hi : Int) (S : List LV) (K : Bool × Unit → List LV → Option R) : G.smithyardref5_bytesIn.fn k (s,lo,hi,()) S K = K (allB lo hi s,()) S := by
 rw [ref_bytesIn hk s hs]
 unfold allB
 refine congrArg (fun b => K (b,()) S) (scan_congr _ _ (fun j _ _ => ?_) rfl)
 cases decide (lo ≤ bt s (j : Int)) && decide (bt s (j : Int) ≤ hi) <;> rfl
theorem scan_cond {β : Type} (p : Nat → Bool) (a b : β) : ∀ d i,scan (fun j => cond (p j) none (some a)) b d i = cond (scan (fun j => cond (p j) none (some false)) true d i) b a
 | 0,_ => rfl
 | d + 1,i => by
  have ih := scan_cond p a b d (i + 1)
  simp only [scan]
  cases p i with
  | true => exact ih
  | false => rfl
theorem scan_first {α β : Type} (z : α) (p : α → Bool) (a b : β) : ∀ (l m : List α),scan (fun i => cond (p ((m ++ l).getD i z)) (some a) none) b l.length m.length = cond (l.any p) a b
 | [],m => rfl
 | x :: l,m => by
  have e : (m ++ x :: l).getD m.length z = x := by simp [List.getD_eq_getElem?_getD]
  have ih := scan_first z p a b l (m ++ [x])
  simp only [List.length_append,List.length_cons,List.length_nil,Nat.zero_add,List.append_assoc,List.cons_append,List.nil_append] at ih
  simp only [List.length_cons,scan,List.any_cons,e]
  cases p x with
  | true => rfl
  | false => exact ih
theorem scan_first0 {α β : Type} (z : α) (p : α → Bool) (a b : β) (l : List α) : scan (fun i => cond (p (l.getD i z)) (some a) none) b l.length 0 = cond (l.any p) a b := scan_first z p a b l []
def isWordS (s : ByteArray) : Bool := allB 33 126 s && (decide (1 ≤ s.size) && decide (s.size ≤ 300))
theorem prog_isWord {k : Nat} (hk : Many k) (s : ByteArray) (hs : s.size ≤ 140737488355328) (S : List LV) (K : Bool × Unit → List LV → Option R) : G.action_isWord.fn k (s,()) S K = K (isWordS s,()) S := by
 unfold Many at hk
 unfold G.action_isWord.fn isWordS allB
 dsimp only
 refine Eq.trans (rounds_scan0 (fun i => (s,(s.size : Int),(i : Int),())) S s.size k (fun i => cond (decide (33 ≤ bt s i) && decide (bt s i ≤ 126)) none (some (K (false,()) S))) (K (decide (1 ≤ s.size) && decide (s.size ≤ 300),()) S) (fun rec i hi => ?_) (fun rec => ?_) (by omega)) ?_
 ·unfold G.action_isWord.b0
  dsimp only
  rw [lt_nat,ifB_pos hi,idxStr_nat hi,idxStr_nat hi,wrap_succ (by omega)]
  by_cases h1 : bt s (i : Int) < 33
  ·have h2 : ¬ (33 ≤ bt s (i : Int)) := by omega
   simp [h1,h2]
  ·have h2 : 33 ≤ bt s (i : Int) := by omega
   by_cases h3 : bt s (i : Int) > 126
   ·have h4 : ¬ (bt s (i : Int) ≤ 126) := by omega
    simp [h1,h2,h3,h4]
   ·have h4 : bt s (i : Int) ≤ 126 := by omega
    simp [h1,h2,h3,h4]
 ·unfold G.action_isWord.b0
  dsimp only
  rw [lt_nat,ifB_neg (Nat.lt_irrefl _)]
  by_cases h1 : 1 ≤ s.size
  ·rw [ifB_pos (show (s.size : Int) ≥ 1 by omega),decide_eq_true h1,Bool.true_and]
   by_cases h2 : s.size ≤ 300
   ·rw [decide_eq_true h2,decide_eq_true (show (s.size : Int) ≤ 300 by omega)]
   ·rw [decide_eq_false h2,decide_eq_false (show ¬ (s.size : Int) ≤ 300 by omega)]
  ·rw [ifB_neg (show ¬ (s.size : Int) ≥ 1 by omega),decide_eq_false h1,Bool.false_and]
 ·rw [scan_cond]
  cases scan (fun j => cond (decide (33 ≤ bt s (j : Int)) && decide (bt s (j : Int) ≤ 126)) none (some false)) true s.size 0 <;> rfl
def badWords (c : List ByteArray) : Bool := c.any fun w => !(isWordS w)
theorem get_size {l : List ByteArray} {n : Nat} (h : ∀ w ∈ l,w.size ≤ n) (i : Nat) (hi : i < l.length) : (l.getD i (bs [])).size ≤ n := h _ (by rw [List.getD_eq_getElem?_getD,List.getElem?_eq_getElem hi]; exact List.getElem_mem hi)
theorem prog_words {k : Nat} (hk : Many k) (c : List ByteArray) (hc : c.length ≤ 140737488355328) (hs : ∀ w ∈ c,w.size ≤ 140737488355328) (S : List LV) (K : Bool × Unit → List LV → Option R) :
  G.slices_ContainsFunc_s_string_string_at_action_checkCommand_1.fn k (c.map .str,(),()) S K = K (badWords c,()) S := by
 have hk' := hk
 unfold Many at hk'
 unfold G.slices_ContainsFunc_s_string_string_at_action_checkCommand_1.fn G.slices_IndexFunc_s_string_string_at_action_checkCommand_1.fn
 dsimp only
 rw [List.length_map]
 have h := rounds_scan0 (b := G.slices_IndexFunc_s_string_string_at_action_checkCommand_1.b0 k (fun (_ : Unit) S => K (decide ((-1 : Int) ≥ 0),()) S) (fun (o5 : Int × Unit) S => K (decide (o5.1 ≥ 0),()) S)) (fun i => (c.map LV.str,(),(c.length : Int),(i : Int),())) S c.length k (fun i => cond (!(isWordS (c.getD i (bs [])))) (some (K (true,()) S)) none) (K (false,()) S) (fun rec i hi => ?_) (fun rec => ?_) (by omega)
 ·refine Eq.trans h ?_
  rw [scan_first0 (bs []) (fun w => !(isWordS w))]
  unfold badWords
  cases c.any fun w => !(isWordS w) <;> rfl
 ·unfold G.slices_IndexFunc_s_string_string_at_action_checkCommand_1.b0 G.action_checkCommand_1.fn
  dsimp only
  rw [lt_nat,ifB_pos hi,idxL_nat (by simpa using hi),map_str_get c i hi]
  simp only [asLeaf_str]
  rw [prog_isWord hk _ (get_size hs i hi),wrap_succ (by omega)]
  dsimp only
  have e : decide ((i : Int) ≥ 0) = true := decide_eq_true (by omega)
  cases isWordS (c.getD i (bs [])) with
  | true => rfl
  | false =>
   show K (decide ((i : Int) ≥ 0),()) S = K (true,()) S
   rw [e]
 ·unfold G.slices_IndexFunc_s_string_string_at_action_checkCommand_1.b0
  dsimp only
  rw [lt_nat,ifB_neg (Nat.lt_irrefl _)]
  rfl
theorem ref_words {k : Nat} (hk : Many k) (c : List ByteArray) (hc : c.length ≤ 140737488355328) (hs : ∀ w ∈ c,w.size ≤ 140737488355328) (S : List LV) (J0 : List LV × Unit → List LV → Option R) (Jret : Int × Unit → List LV → Option R) :
  rounds (G.smithyardref5_checkCommand.b0 k J0 Jret) k (c.map .str,(0 : Int),()) S = cond (badWords c) (Jret (3,()) S) (J0 (c.map .str,()) S) := by
 have hk' := hk
 unfold Many at hk'
 have h := rounds_scan0 (b := G.smithyardref5_checkCommand.b0 k J0 Jret) (fun i => (c.map LV.str,(i : Int),())) S c.length k (fun i => cond (!(isWordS (c.getD i (bs [])))) (some (Jret (3,()) S)) none) (J0 (c.map .str,()) S) (fun rec i hi => ?_) (fun rec => ?_) (by omega)
 ·refine Eq.trans h ?_
  rw [scan_first0 (bs []) (fun w => !(isWordS w))]
  rfl
 ·unfold G.smithyardref5_checkCommand.b0 G.smithyardref5_within.fn
  dsimp only
  rw [List.length_map,lt_nat,ifB_pos hi,idxL_nat (by simpa using hi),idxL_nat (by simpa using hi),map_str_get c i hi,wrap_succ (by omega)]
  have hz := get_size hs i hi
  generalize c.getD i (bs []) = w at hz
  simp only [asLeaf_str,ref_allB hk w hz]
  unfold isWordS
  by_cases h1 : 1 ≤ w.size
  ·rw [ifB_pos (show (w.size : Int) ≥ 1 by omega),decide_eq_true h1]
   by_cases h2 : w.size ≤ 300
   ·rw [decide_eq_true h2,decide_eq_true (show (w.size : Int) ≤ 300 by omega)]
    cases allB 33 126 w <;> rfl
   ·rw [decide_eq_false h2,decide_eq_false (show ¬ (w.size : Int) ≤ 300 by omega)]
    cases allB 33 126 w <;> rfl
  ·rw [ifB_neg (show ¬ (w.size : Int) ≥ 1 by omega),decide_eq_false h1]
   cases allB 33 126 w <;> rfl
 ·unfold G.smithyardref5_checkCommand.b0
  dsimp only
  rw [List.length_map,lt_nat,ifB_neg (Nat.lt_irrefl _)]
def formS (w : ByteArray) : ByteArray := cond (strEq w (bs [106,111,105,110])) (bs [112,112,43]) (cond (strEq w (bs [115,111,114,116])) (bs [112,112]) (cond (strEq w (bs [99,111,117,110,116])) (bs [112,112]) (cond (strEq w (bs [101,120,112,97,110,100])) (bs [112,112]) (cond (strEq w (bs [109,97,107,101])) (bs [112,112]) (cond (strEq w (bs [100,105,103,101,115,116])) (bs [112,112]) (cond (strEq w (bs [108,105,115,116])) (bs [112,112]) (cond (strEq w (bs [102,105,114,115,116])) (bs [112,110,112]) (cond (strEq w (bs [99,104,97,110,103,101])) (bs [112,119,119,112]) (cond (strEq w (bs [112,105,99,107])) (bs [112,112,112,43]) (cond (strEq w (bs [118,97,114])) (bs [112,119]) (cond (strEq w (bs [116,101,108,108])) (bs [119,43]) (cond (strEq w (bs [110,101,101,100])) (bs [112]) (cond (strEq w (bs [115,97,109,101])) (bs [112,112]) (cond (strEq w (bs [102,97,105,108])) (bs [110]) (bs [])))))))))))))))
theorem prog_formOf (k : Nat) (w : ByteArray) (S : List LV) (K : ByteArray × Unit → List LV → Option R) : G.action_formOf.fn k (w,()) S K = K (formS w,()) S := by
 unfold G.action_formOf.fn G.action_formOf.q0 G.action_formOf.q1 G.action_formOf.q2 G.action_formOf.q3 G.action_formOf.q4 G.action_formOf.q5 G.action_formOf.q6 G.action_formOf.q7 formS
 dsimp only
 generalize strEq w (bs [106,111,105,110]) = b0
 generalize strEq w (bs [115,111,114,116]) = b1
 generalize strEq w (bs [99,111,117,110,116]) = b2
 generalize strEq w (bs [101,120,112,97,110,100]) = b3
 generalize strEq w (bs [109,97,107,101]) = b4
 generalize strEq w (bs [100,105,103,101,115,116]) = b5
 generalize strEq w (bs [108,105,115,116]) = b6
 generalize strEq w (bs [102,105,114,115,116]) = b7
 generalize strEq w (bs [99,104,97,110,103,101]) = b8
 generalize strEq w (bs [112,105,99,107]) = b9
 generalize strEq w (bs [118,97,114]) = b10
 generalize strEq w (bs [116,101,108,108]) = b11
 generalize strEq w (bs [110,101,101,100]) = b12
 generalize strEq w (bs [115,97,109,101]) = b13
 generalize strEq w (bs [102,97,105,108]) = b14
 cases b0 with
 | true => rfl
 | false =>
  cases b1 with
  | true => rfl
  | false =>
   cases b2 with
   | true => rfl
   | false =>
    cases b3 with
    | true => rfl
    | false =>
     cases b4 with
     | true => rfl
     | false =>
      cases b5 with
      | true => rfl
      | false =>
       cases b6 with
       | true => rfl
       | false =>
        cases b7 with
        | true => rfl
        | false =>
         cases b8 with
         | true => rfl
         | false =>
          cases b9 with
          | true => rfl
          | false =>
           cases b10 with
           | true => rfl
           | false =>
            cases b11 with
            | true => rfl
            | false =>
             cases b12 with
             | true => rfl
             | false =>
              cases b13 with
              | true => rfl
              | false =>
               cases b14 with
               | true => rfl
               | false =>
                rfl
theorem fm0 : strEq (bs [112,112,43]) (bs []) = false := by decide +kernel
theorem fm1 : strEq (bs [112,112]) (bs []) = false := by decide +kernel
theorem fm2 : strEq (bs [112,110,112]) (bs []) = false := by decide +kernel
theorem fm3 : strEq (bs [112,119,119,112]) (bs []) = false := by decide +kernel
theorem fm4 : strEq (bs [112,112,112,43]) (bs []) = false := by decide +kernel
theorem fm5 : strEq (bs [112,119]) (bs []) = false := by decide +kernel
theorem fm6 : strEq (bs [119,43]) (bs []) = false := by decide +kernel
theorem fm7 : strEq (bs [112]) (bs []) = false := by decide +kernel
theorem fm8 : strEq (bs [110]) (bs []) = false := by decide +kernel
theorem fm9 : strEq (bs []) (bs []) = true := by decide +kernel
theorem ref_form (k : Nat) (w : ByteArray) (S : List LV) (K : ByteArray × Bool × Unit → List LV → Option R) : G.smithyardref5_form.fn k (w,()) S K = K (formS w,!(strEq (formS w) (bs [])),()) S := by
 unfold G.smithyardref5_form.fn G.smithyardref5_form.q0 G.smithyardref5_form.q1 G.smithyardref5_form.q2 G.smithyardref5_form.q3 G.smithyardref5_form.q4 G.smithyardref5_form.q5 G.smithyardref5_form.q6 formS
 dsimp only
 cases hs : strEq w (bs [115,97,109,101]) with
 | true =>
  rw [strEq_iff] at hs
  subst hs
  simp only [show strEq (bs [115,97,109,101]) (bs [106,111,105,110]) = false from by decide +kernel,show strEq (bs [115,97,109,101]) (bs [115,111,114,116]) = false from by decide +kernel,show strEq (bs [115,97,109,101]) (bs [99,111,117,110,116]) = false from by decide +kernel,show strEq (bs [115,97,109,101]) (bs [101,120,112,97,110,100]) = false from by decide +kernel,show strEq (bs [115,97,109,101]) (bs [109,97,107,101]) = false from by decide +kernel,show strEq (bs [115,97,109,101]) (bs [100,105,103,101,115,116]) = false from by decide +kernel,show strEq (bs [115,97,109,101]) (bs [108,105,115,116]) = false from by decide +kernel,show strEq (bs [115,97,109,101]) (bs [102,105,114,115,116]) = false from by decide +kernel,show strEq (bs [115,97,109,101]) (bs [99,104,97,110,103,101]) = false from by decide +kernel,show strEq (bs [115,97,109,101]) (bs [112,105,99,107]) = false from by decide +kernel,show strEq (bs [115,97,109,101]) (bs [118,97,114]) = false from by decide +kernel,show strEq (bs [115,97,109,101]) (bs [116,101,108,108]) = false from by decide +kernel,show strEq (bs [115,97,109,101]) (bs [110,101,101,100]) = false from by decide +kernel,show strEq (bs [115,97,109,101]) (bs [102,97,105,108]) = false from by decide +kernel,ifB_true,ifB_false,cond_true,cond_false,fm1,Bool.not_false]
 | false =>
  generalize strEq w (bs [106,111,105,110]) = b0
  generalize strEq w (bs [115,111,114,116]) = b1
  generalize strEq w (bs [99,111,117,110,116]) = b2
  generalize strEq w (bs [101,120,112,97,110,100]) = b3
  generalize strEq w (bs [109,97,107,101]) = b4
  generalize strEq w (bs [100,105,103,101,115,116]) = b5
  generalize strEq w (bs [108,105,115,116]) = b6
  generalize strEq w (bs [102,105,114,115,116]) = b7
  generalize strEq w (bs [99,104,97,110,103,101]) = b8
  generalize strEq w (bs [112,105,99,107]) = b9
  generalize strEq w (bs [118,97,114]) = b10
  generalize strEq w (bs [116,101,108,108]) = b11
  generalize strEq w (bs [110,101,101,100]) = b12
  generalize strEq w (bs [102,97,105,108]) = b14
  cases b0 with
  | true => simp only [ifB_true,ifB_false,cond_true,cond_false,fm0,Bool.not_false]
  | false =>
   cases b1 with
   | true => simp only [ifB_true,ifB_false,cond_true,cond_false,fm1,Bool.not_false]
   | false =>
    cases b2 with
    | true => simp only [ifB_true,ifB_false,cond_true,cond_false,fm1,Bool.not_false]
    | false =>
     cases b3 with
     | true => simp only [ifB_true,ifB_false,cond_true,cond_false,fm1,Bool.not_false]
     | false =>
      cases b4 with
      | true => simp only [ifB_true,ifB_false,cond_true,cond_false,fm1,Bool.not_false]
      | false =>
       cases b5 with
       | true => simp only [ifB_true,ifB_false,cond_true,cond_false,fm1,Bool.not_false]
       | false =>
        cases b6 with
        | true => simp only [ifB_true,ifB_false,cond_true,cond_false,fm1,Bool.not_false]
        | false =>
         cases b7 with
         | true => simp only [ifB_true,ifB_false,cond_true,cond_false,fm2,Bool.not_false]
         | false =>
          cases b8 with
          | true => simp only [ifB_true,ifB_false,cond_true,cond_false,fm3,Bool.not_false]
          | false =>
           cases b9 with
           | true => simp only [ifB_true,ifB_false,cond_true,cond_false,fm4,Bool.not_false]
           | false =>
            cases b10 with
            | true => simp only [ifB_true,ifB_false,cond_true,cond_false,fm5,Bool.not_false]
            | false =>
             cases b11 with
             | true => simp only [ifB_true,ifB_false,cond_true,cond_false,fm6,Bool.not_false]
             | false =>
              cases b12 with
              | true => simp only [ifB_true,ifB_false,cond_true,cond_false,fm7,Bool.not_false]
              | false =>
               cases b14 with
               | true => simp only [ifB_true,ifB_false,cond_true,cond_false,fm8,Bool.not_false]
               | false =>
                simp only [ifB_true,ifB_false,cond_true,cond_false,fm9,Bool.not_true]
end
end Go.Lm
set_option maxRecDepth 100000
namespace Go.Lm
section
variable {R : Type}
def hasPlus (f : ByteArray) : Bool := decide (1 ≤ f.size) && strEq (f.extract (f.size - 1) f.size) (bs [43])
def cutPlus (f : ByteArray) : ByteArray × Bool := cond (hasPlus f) (f.extract 0 (f.size - 1),true) (f,false)
theorem wrap_sub1 {n : Nat} (h : 1 ≤ n) (h2 : n ≤ 140737488355328) : IntKind.wrap .i64 ((n : Int) - 1) = ((n - 1 : Nat) : Int) := wrap_pred (by omega) (by omega)
theorem CutSuffix_at (k : Nat) (f : ByteArray) (hf : f.size ≤ 140737488355328) (S : List LV) (K : ByteArray × Bool × Unit → List LV → Option R) : G.strings_CutSuffix.fn k (f,bs [43],()) S K = K ((cutPlus f).1,(cutPlus f).2,()) S := by
 unfold G.strings_CutSuffix.fn G.internal_stringslite_CutSuffix.fn G.internal_stringslite_HasSuffix.fn cutPlus hasPlus
 have e1 : ((bs [43]).size : Int) = 1 := rfl
 dsimp only
 rw [e1]
 by_cases h1 : 1 ≤ f.size
 ·rw [ifB_pos (show (f.size : Int) ≥ 1 by omega),decide_eq_true h1,wrap_sub1 h1 hf]
  have e2 : ∀ K : ByteArray → Option R,slStr f ((f.size - 1 : Nat) : Int) (f.size : Int) K = K (f.extract (f.size - 1) f.size) := fun K => by
   unfold slStr
   rw [ifB_pos ⟨by omega,by omega,by omega⟩]; rfl
  have e3 : ∀ K : ByteArray → Option R,slStr f (0 : Int) ((f.size - 1 : Nat) : Int) K = K (f.extract 0 (f.size - 1)) := fun K => slStr_nat (by omega) K
  rw [e2,e3,Bool.true_and]
  cases strEq (f.extract (f.size - 1) f.size) (bs [43]) <;> rfl
 ·rw [ifB_neg (show ¬ (f.size : Int) ≥ 1 by omega),decide_eq_false h1]
  rfl
theorem formS_cases {P : ByteArray → Prop} (w : ByteArray) (h0 : P (bs [])) (h1 : P (bs [112,112,43])) (h2 : P (bs [112,112])) (h3 : P (bs [112,110,112])) (h4 : P (bs [112,119,119,112])) (h5 : P (bs [112,112,112,43])) (h6 : P (bs [112,119])) (h7 : P (bs [119,43])) (h8 : P (bs [112])) (h9 : P (bs [110])) : P (formS w) := by
 unfold formS
 cases strEq w (bs [106,111,105,110]) with
 | true => exact h1
 | false =>
 rw [cond_false]
 cases strEq w (bs [115,111,114,116]) with
 | true => exact h2
 | false =>
 rw [cond_false]
 cases strEq w (bs [99,111,117,110,116]) with
 | true => exact h2
 | false =>
 rw [cond_false]
 cases strEq w (bs [101,120,112,97,110,100]) with
 | true => exact h2
 | false =>
 rw [cond_false]
 cases strEq w (bs [109,97,107,101]) with
 | true => exact h2
 | false =>
 rw [cond_false]
 cases strEq w (bs [100,105,103,101,115,116]) with
 | true => exact h2
 | false =>
 rw [cond_false]
 cases strEq w (bs [108,105,115,116]) with
 | true => exact h2
 | false =>
 rw [cond_false]
 cases strEq w (bs [102,105,114,115,116]) with
 | true => exact h3
 | false =>
 rw [cond_false]
 cases strEq w (bs [99,104,97,110,103,101]) with
 | true => exact h4
 | false =>
 rw [cond_false]
 cases strEq w (bs [112,105,99,107]) with
 | true => exact h5
 | false =>
 rw [cond_false]
 cases strEq w (bs [118,97,114]) with
 | true => exact h6
 | false =>
 rw [cond_false]
 cases strEq w (bs [116,101,108,108]) with
 | true => exact h7
 | false =>
 rw [cond_false]
 cases strEq w (bs [110,101,101,100]) with
 | true => exact h8
 | false =>
 rw [cond_false]
 cases strEq w (bs [115,97,109,101]) with
 | true => exact h2
 | false =>
 rw [cond_false]
 cases strEq w (bs [102,97,105,108]) with
 | true => exact h9
 | false => exact h0
theorem formS_size (w : ByteArray) : (formS w).size ≤ 4 := formS_cases (P := fun f => f.size ≤ 4) w (by decide) (by decide) (by decide) (by decide) (by decide) (by decide) (by decide) (by decide) (by decide) (by decide)
theorem formS_sorts (w : ByteArray) : strEq (formS w) (bs []) = true ∨ 1 ≤ (cutPlus (formS w)).1.size :=
 formS_cases (P := fun f => strEq f (bs []) = true ∨ 1 ≤ (cutPlus f).1.size) w (by decide +kernel) (by decide +kernel) (by decide +kernel) (by decide +kernel) (by decide +kernel) (by decide +kernel) (by decide +kernel) (by decide +kernel) (by decide +kernel) (by decide +kernel)
theorem cutPlus_size (f : ByteArray) : (cutPlus f).1.size ≤ f.size := by
 unfold cutPlus
 cases hasPlus f with
 | false => exact Nat.le_refl _
 | true =>
  show (f.extract 0 (f.size - 1)).size ≤ f.size
  rw [ByteArray.size_extract]; omega
def fitsS (c : Int) (w : ByteArray) : Bool := cond (c == 112) (isPathS w) (cond (c == 110) (isNumS w 6) true)
def stepF (ws : List ByteArray) (sorts : ByteArray) (i : Nat) : Bool := fitsS (bt sorts ((min i (sorts.size - 1) : Nat) : Int)) (ws.getD i (bs []))
def formedL (ws : List ByteArray) (sorts : ByteArray) : Bool := scan (fun i => cond (stepF ws sorts i) none (some false)) true ws.length 0
def formedS (ws : List ByteArray) (f : ByteArray) : Bool := cond (decide (ws.length < (cutPlus f).1.size)) false (cond (decide (ws.length > (cutPlus f).1.size)) (cond (cutPlus f).2 (formedL ws (cutPlus f).1) false) (formedL ws (cutPlus f).1))
theorem minI_nat (i n : Nat) : minI (i : Int) (n : Int) = ((min i n : Nat) : Int) := by
 unfold minI
 split <;> omega
theorem sort_at {sorts : ByteArray} (h1 : 1 ≤ sorts.size) (h2 : sorts.size ≤ 140737488355328) (i : Nat) (K : Int → Option R) : idxStr sorts (minI (i : Int) (IntKind.wrap .i64 ((sorts.size : Int) - 1))) K = K (bt sorts ((min i (sorts.size - 1) : Nat) : Int)) := by
 rw [wrap_sub1 h1 h2,minI_nat,idxStr_nat (by omega)]
theorem prog_forms {k : Nat} (hk : Many k) (ws : List ByteArray) (hl : ws.length ≤ 140737488355328) (hw : ∀ w ∈ ws,w.size ≤ 140737488355328) (sorts : ByteArray) (h1 : 1 ≤ sorts.size) (h2 : sorts.size ≤ 140737488355328) (S : List LV) (J0 : Unit → List LV → Option R) (Jret : Bool × Unit → List LV → Option R) :
  rounds (G.action_hasForm.b0 k J0 Jret) k (sorts,ws.map .str,(ws.length : Int),(0 : Int),()) S = cond (formedL ws sorts) (J0 () S) (Jret (false,()) S) := by
 have hk' := hk
 unfold Many at hk'
 have h := rounds_scan0 (b := G.action_hasForm.b0 k J0 Jret) (fun i => (sorts,ws.map LV.str,(ws.length : Int),(i : Int),())) S ws.length k (fun i => cond (stepF ws sorts i) none (some (Jret (false,()) S))) (J0 () S) (fun rec i hi => ?_) (fun rec => ?_) (by omega)
 ·refine Eq.trans h ?_
  rw [scan_cond]; rfl
 ·unfold G.action_hasForm.b0 G.action_hasForm.q2 G.action_hasForm.q3 G.action_hasForm.q4 G.action_hasForm.q5 G.action_hasForm.q6 G.action_hasForm.q7
  dsimp only
  rw [lt_nat,ifB_pos hi,idxL_nat (by simpa using hi),map_str_get ws i hi,wrap_succ (by omega)]
  simp only [asLeaf_str,sort_at h1 h2]
  unfold stepF fitsS
  have hz := get_size hw i hi
  generalize ws.getD i (bs []) = w at hz
  generalize bt sorts ((min i (sorts.size - 1) : Nat) : Int) = c
  have e1 : ∀ K : Bool × Unit → List LV → Option R,G.action_isNumber.fn k (w,6,()) S K = K (isNumS w 6,()) S := fun K => isNumber_at k w 6 hz S K
  simp only [prog_IsPath hk,e1]
  cases c == 112 with
  | true => cases isPathS w <;> rfl
  | false =>
   cases c == 110 with
   | true => cases isNumS w 6 <;> rfl
   | false => rfl
 ·unfold G.action_hasForm.b0 G.action_hasForm.q2
  dsimp only
  rw [lt_nat,ifB_neg (Nat.lt_irrefl _)]
theorem prog_hasForm {k : Nat} (hk : Many k) (ws : List ByteArray) (hl : ws.length ≤ 140737488355328) (hw : ∀ w ∈ ws,w.size ≤ 140737488355328) (f : ByteArray) (h1 : 1 ≤ (cutPlus f).1.size) (h2 : f.size ≤ 140737488355328) (S : List LV) (K : Bool × Unit → List LV → Option R) :
  G.action_hasForm.fn k (ws.map .str,f,()) S K = K (formedS ws f,()) S := by
 unfold G.action_hasForm.fn G.action_hasForm.q1 G.action_hasForm.q0 formedS
 dsimp only
 have h3 := Nat.le_trans (cutPlus_size f) h2
 rw [CutSuffix_at k f h2]
 dsimp only
 rw [List.length_map,prog_forms hk ws hl hw _ h1 h3,lt_nat,gt_nat]
 cases decide (ws.length < (cutPlus f).1.size) with
 | true => rfl
 | false =>
  cases decide (ws.length > (cutPlus f).1.size) with
  | true =>
   cases (cutPlus f).2 with
   | true =>
    show cond _ _ _ = _
    cases formedL ws (cutPlus f).1 <;> rfl
   | false => rfl
  | false =>
   show cond _ _ _ = _
   cases formedL ws (cutPlus f).1 <;> rfl
theorem ref_fits {k : Nat} (hk : Many k) (c : Int) (w : ByteArray) (hw : w.size ≤ 140737488355328) (S : List LV) (K : Bool × Unit → List LV → Option R) : G.smithyardref5_fits.fn k (c,w,()) S K = K (fitsS c w,()) S := by
 unfold G.smithyardref5_fits.fn fitsS
 dsimp only
 have e1 : ∀ K : Int × Bool × Unit → List LV → Option R,G.smithyardref5_numbered.fn k (w,6,()) S K = K (numD w 6,isNumS w 6,()) S := fun K => ref_numberedD hk w 6 (by decide) hw S K
 simp only [ref_IsPath hk,e1]
 cases c == 112 with
 | true => rfl
 | false => cases c == 110 <;> rfl
theorem ref_forms {k : Nat} (hk : Many k) (c ws : List ByteArray) (hl : ws.length ≤ 140737488355328) (hw : ∀ w ∈ ws,w.size ≤ 140737488355328) (sorts : ByteArray) (h1 : 1 ≤ sorts.size) (h2 : sorts.size ≤ 140737488355328) (S : List LV) (J0 : List LV × List LV × Unit → List LV → Option R) (Jret : Bool × Unit → List LV → Option R) :
  rounds (G.smithyardref5_formed.b0 k J0 Jret) k (c.map .str,sorts,ws.map .str,(0 : Int),()) S = cond (formedL ws sorts) (J0 (c.map .str,ws.map .str,()) S) (Jret (false,()) S) := by
 have hk' := hk
 unfold Many at hk'
 have h := rounds_scan0 (b := G.smithyardref5_formed.b0 k J0 Jret) (fun i => (c.map LV.str,sorts,ws.map LV.str,(i : Int),())) S ws.length k (fun i => cond (stepF ws sorts i) none (some (Jret (false,()) S))) (J0 (c.map .str,ws.map .str,()) S) (fun rec i hi => ?_) (fun rec => ?_) (by omega)
 ·refine Eq.trans h ?_
  rw [scan_cond]; rfl
 ·unfold G.smithyardref5_formed.b0 G.smithyardref5_formed.q2 G.smithyardref5_formed.q3
  dsimp only
  rw [List.length_map,lt_nat,ifB_pos hi,sort_at h1 h2,idxL_nat (by simpa using hi),map_str_get ws i hi,wrap_succ (by omega)]
  simp only [asLeaf_str,ref_fits hk _ _ (get_size hw i hi)]
  unfold stepF
  cases fitsS (bt sorts ((min i (sorts.size - 1) : Nat) : Int)) (ws.getD i (bs [])) <;> rfl
 ·unfold G.smithyardref5_formed.b0
  dsimp only
  rw [List.length_map,lt_nat,ifB_neg (Nat.lt_irrefl _)]
theorem fail_len {w : ByteArray} {ws : List ByteArray} (h : strEq w (bs [102,97,105,108]) = true) (h2 : formedS ws (formS w) = true) : ∃ v vs,ws = v :: vs := by
 rw [strEq_iff] at h
 subst h
 have e1 : (cutPlus (formS (bs [102,97,105,108]))).1.size = 1 := by decide +kernel
 unfold formedS at h2
 rw [e1] at h2
 cases ws with
 | nil => exact absurd h2 (by decide)
 | cons v vs => exact ⟨v,vs,rfl⟩
def noFail (w : ByteArray) (ws : List ByteArray) : Bool := !(strEq w (bs [102,97,105,108]) && strEq (ws.getD 0 (bs [])) (bs [48]))
theorem tail_at (w : ByteArray) (ws : List ByteArray) (K : List LV → Option R) : slL ((w :: ws).map LV.str) 1 (((w :: ws).map LV.str).length : Int) K = K (ws.map .str) := by
 unfold slL
 rw [ifB_pos ⟨by omega,by simp; omega,by simp⟩]
 simp only [Int.toNat_natCast]
 rw [List.take_of_length_le (Nat.le_refl _)]
 rfl
theorem ref_formed {k : Nat} (hk : Many k) (w : ByteArray) (ws : List ByteArray) (hl : ws.length ≤ 140737488355328) (hw : ∀ w ∈ ws,w.size ≤ 140737488355328) (hf : strEq (formS w) (bs []) = false) (S : List LV) (K : Bool × Unit → List LV → Option R) :
  G.smithyardref5_formed.fn k ((w :: ws).map .str,()) S K = K (formedS ws (formS w) && noFail w ws,()) S := by
 unfold G.smithyardref5_formed.fn G.smithyardref5_formed.q0 G.smithyardref5_formed.q1 G.smithyardref5_formed.q4
 have h1 : 1 ≤ (cutPlus (formS w)).1.size := by
  rcases formS_sorts w with h | h
  ·rw [hf] at h; cases h
  ·exact h
 have h2 := formS_size w
 have h3 := cutPlus_size (formS w)
 dsimp only
 simp only [idx_str0,asLeaf_str,ref_form,tail_at]
 rw [CutSuffix_at k _ (by omega)]
 dsimp only
 rw [List.length_map,ref_forms hk (w :: ws) ws hl hw _ h1 (by omega),lt_nat,gt_nat]
 have hfin : formedL ws (cutPlus (formS w)).1 = true → formedS ws (formS w) = true → (ifB (!(strEq w (bs [102,97,105,108]))) (K (true,()) S) (idxL (ws.map LV.str) 0 fun v18 => asStr (leaf v18 0) fun s19 => K (!(strEq s19 (bs [48])),()) S)) = K (noFail w ws,()) S := fun _ hy => by
  unfold noFail
  cases hq : strEq w (bs [102,97,105,108]) with
  | false => rfl
  | true =>
   obtain ⟨v,vs,rfl⟩ := fail_len hq hy
   simp only [Bool.not_true,ifB_false,idx_str0,asLeaf_str,List.getD_cons_zero,Bool.true_and]
 have hdef : formedS ws (formS w) = cond (decide (ws.length < (cutPlus (formS w)).1.size)) false (cond (decide (ws.length > (cutPlus (formS w)).1.size)) (cond (cutPlus (formS w)).2 (formedL ws (cutPlus (formS w)).1) false) (formedL ws (cutPlus (formS w)).1)) := rfl
 cases ha : decide (ws.length < (cutPlus (formS w)).1.size) with
 | true =>
  rw [hdef,ha]; rfl
 | false =>
  rw [ha] at hdef
  cases hb : decide (ws.length > (cutPlus (formS w)).1.size) with
  | true =>
   rw [hb] at hdef
   cases hc : (cutPlus (formS w)).2 with
   | true =>
    rw [hc] at hdef
    simp only [ifB_false,ifB_true,Bool.not_true]
    cases hd : formedL ws (cutPlus (formS w)).1 with
    | true =>
     rw [hd] at hdef
     rw [cond_true]
     simp only [idx_str0,asLeaf_str]
     refine Eq.trans (hfin hd hdef) ?_
     rw [hdef]; rfl
    | false => rw [hd] at hdef; rw [hdef]; rfl
   | false => rw [hc] at hdef; rw [hdef]; rfl
  | false =>
   rw [hb] at hdef
   simp only [ifB_false]
   cases hd : formedL ws (cutPlus (formS w)).1 with
   | true =>
    rw [hd] at hdef
    rw [cond_true]
    simp only [idx_str0,asLeaf_str]
    refine Eq.trans (hfin hd hdef) ?_
    rw [hdef]; rfl
   | false => rw [hd] at hdef; rw [hdef]; rfl
def cmdS (c : List ByteArray) : Int := cond (decide (c.length = 0)) 9 (cond (decide (c.length > 50)) 2 (cond (badWords c) 3 (cond (strEq (formS (c.getD 0 (bs []))) (bs [])) 4 (cond (formedS c.tail (formS (c.getD 0 (bs []))) && noFail (c.getD 0 (bs [])) c.tail) 0 3))))
theorem prog_checkCommand {k : Nat} (hk : Many k) (c : List ByteArray) (hs : ∀ w ∈ c,w.size ≤ 140737488355328) (S : List LV) (K : Int × Unit → List LV → Option R) : G.action_checkCommand.fn k (c.map .str,()) S K = K (cmdS c,()) S := by
 unfold G.action_checkCommand.fn
 cases c with
 | nil => rfl
 | cons w ws =>
  unfold cmdS
  dsimp only
  rw [show ((((w :: ws).map LV.str).length : Int) == 0) = false by rw [beq_eq_false_iff_ne]; simp; omega,ifB_false,decide_eq_false (show ¬ (w :: ws).length = 0 by simp),cond_false]
  have hle : (((w :: ws).map LV.str).length : Int) = ((w :: ws).length : Int) := by rw [List.length_map]
  rw [show decide ((((w :: ws).map LV.str).length : Int) > 50) = decide ((w :: ws).length > 50) by rw [hle]; exact gt_nat _ 50]
  cases hl : decide ((w :: ws).length > 50) with
  | true => rfl
  | false =>
   have hlen : (w :: ws).length ≤ 50 := by have := of_decide_eq_false hl; omega
   rw [ifB_false,prog_words hk _ (by omega) hs]
   dsimp only
   cases badWords (w :: ws) with
   | true => rfl
   | false =>
    simp only [ifB_false,idx_str0,asLeaf_str,prog_formOf,List.getD_cons_zero,List.tail_cons,cond_false,tail_at]
    cases hf : strEq (formS w) (bs []) with
    | true => rfl
    | false =>
     have h1 : 1 ≤ (cutPlus (formS w)).1.size := by
      rcases formS_sorts w with h | h
      ·rw [hf] at h; cases h
      ·exact h
     have h2 := formS_size w
     simp only [ifB_false]
     rw [prog_hasForm hk ws (by simp only [List.length_cons] at hlen; omega) (fun x hx => hs x (by simp [hx])) _ h1 (by omega)]
     dsimp only
     cases hg : formedS ws (formS w) with
     | false => rfl
     | true =>
      unfold noFail
      cases hq : strEq w (bs [102,97,105,108]) with
      | false => rfl
      | true =>
       obtain ⟨v,vs,rfl⟩ := fail_len hq hg
       simp only [Bool.not_true,ifB_false,ifB_true,idx_str1,asLeaf_str,List.getD_cons_zero,Bool.true_and]
       cases strEq v (bs [48]) <;> rfl
theorem ref_checkCommand {k : Nat} (hk : Many k) (c : List ByteArray) (hs : ∀ w ∈ c,w.size ≤ 140737488355328) (S : List LV) (K : Int × Unit → List LV → Option R) : G.smithyardref5_checkCommand.fn k (c.map .str,()) S K = K (cmdS c,()) S := by
 unfold G.smithyardref5_checkCommand.fn
 cases c with
 | nil => rfl
 | cons w ws =>
  unfold cmdS
  dsimp only
  rw [show ((((w :: ws).map LV.str).length : Int) == 0) = false by rw [beq_eq_false_iff_ne]; simp; omega,ifB_false,decide_eq_false (show ¬ (w :: ws).length = 0 by simp),cond_false]
  have hle : (((w :: ws).map LV.str).length : Int) = ((w :: ws).length : Int) := by rw [List.length_map]
  rw [show decide ((((w :: ws).map LV.str).length : Int) > 50) = decide ((w :: ws).length > 50) by rw [hle]; exact gt_nat _ 50]
  cases hl : decide ((w :: ws).length > 50) with
  | true => rfl
  | false =>
   have hlen : (w :: ws).length ≤ 50 := by have := of_decide_eq_false hl; omega
   rw [ifB_false,ref_words hk _ (by omega) hs]
   dsimp only
   cases badWords (w :: ws) with
   | true => rfl
   | false =>
    simp only [idx_str0,asLeaf_str,ref_form,List.getD_cons_zero,List.tail_cons,cond_false]
    cases hf : strEq (formS w) (bs []) with
    | true => rfl
    | false =>
     simp only [Bool.not_false,Bool.not_true,ifB_false]
     rw [ref_formed hk w ws (by simp only [List.length_cons] at hlen; omega) (fun x hx => hs x (by simp [hx])) hf]
     dsimp only
     cases formedS ws (formS w) && noFail w ws <;> rfl
end
end Go.Lm
set_option maxRecDepth 100000
namespace Go.Lm
section
variable {R : Type}
def smallB (c : Int) : Bool := decide (c ≥ 97) && decide (c ≤ 122)
def digitB (c : Int) : Bool := decide (c ≥ 48) && decide (c ≤ 57)
def keyWords : List ByteArray := [bs [109,97,99,114,111],bs [102,111,114],bs [105,110],bs [105,102],bs [101,108,115,101],bs [117,115,101],bs [102,105,108,101,115],bs [99,104,111,111,115,101]]
def nameAt (s : ByteArray) (i : Nat) : Bool := smallB (bt s i) || (!(decide (i = 0)) && (digitB (bt s i) || (bt s i == 95)))
def isNameS (s : ByteArray) : Bool := scan (fun i => cond (nameAt s i) none (some false)) true s.size 0 && (!(keyWords.any (strEq s)) && (decide (1 ≤ s.size) && decide (s.size ≤ 40)))
theorem ref4_within (k : Nat) (n a b : Int) (S : List LV) (K : Bool × Unit → List LV → Option R) : G.smithyardref4_within.fn k (n,a,b,()) S K = K (decide (a ≤ n) && decide (n ≤ b),()) S := by
 unfold G.smithyardref4_within.fn
 dsimp only
 by_cases h : a ≤ n
 ·rw [ifB_pos (show n ≥ a from h),decide_eq_true h,Bool.true_and]
 ·rw [ifB_neg (show ¬ n ≥ a from h),decide_eq_false h,Bool.false_and]
theorem ref5_within (k : Nat) (n a b : Int) (S : List LV) (K : Bool × Unit → List LV → Option R) : G.smithyardref5_within.fn k (n,a,b,()) S K = K (decide (a ≤ n) && decide (n ≤ b),()) S := by
 unfold G.smithyardref5_within.fn
 dsimp only
 by_cases h : a ≤ n
 ·rw [ifB_pos (show n ≥ a from h),decide_eq_true h,Bool.true_and]
 ·rw [ifB_neg (show ¬ n ≥ a from h),decide_eq_false h,Bool.false_and]
theorem eq0_nat (i : Nat) : ((i : Int) == 0) = decide (i = 0) := by
 by_cases h : i = 0
 ·subst h; rfl
 ·rw [decide_eq_false h,beq_eq_false_iff_ne]; omega
theorem size_le (n m : Nat) : decide ((n : Int) ≤ (m : Int)) = decide (n ≤ m) := by simp
theorem ref_IsName {k : Nat} (hk : Many k) (s : ByteArray) (hs : s.size ≤ 140737488355328) (S : List LV) (K : Bool × Unit → List LV → Option R) : G.smithyardref4_IsName.fn k (s,()) S K = K (isNameS s,()) S := by
 unfold Many at hk
 unfold G.smithyardref4_IsName.fn isNameS
 dsimp only
 refine Eq.trans (rounds_scan0 (fun i => (s,(i : Int),())) S s.size k (fun i => cond (nameAt s i) none (some (K (false,()) S))) (K (!(keyWords.any (strEq s)) && (decide (1 ≤ s.size) && decide (s.size ≤ 40)),()) S) (fun rec i hi => ?_) (fun rec => ?_) (by omega)) ?_
 ·unfold G.smithyardref4_IsName.b0 G.smithyardref4_IsName.q1 G.smithyardref4_IsName.q0
  dsimp only
  rw [lt_nat,ifB_pos hi,idxStr_nat hi,wrap_succ (by omega),eq0_nat]
  unfold nameAt smallB digitB
  generalize bt s (i : Int) = c
  have e1 : (c != 95) = !(c == 95) := rfl
  rw [e1]
  generalize decide (c ≥ 97) = b1
  generalize decide (c ≤ 122) = b2
  generalize decide (i = 0) = b3
  generalize decide (c ≥ 48) = b4
  generalize decide (c ≤ 57) = b5
  generalize (c == 95) = b6
  cases b1 <;> cases b2 <;> cases b3 <;> cases b4 <;> cases b5 <;> cases b6 <;> rfl
 ·unfold G.smithyardref4_IsName.b0 G.smithyardref4_IsName.q2
  dsimp only
  rw [lt_nat,ifB_neg (Nat.lt_irrefl _)]
  have e : ∀ K' : Bool × Unit → List LV → Option R,G.smithyardref4_within.fn k ((s.size : Int),1,40,()) S K' = K' (decide (1 ≤ s.size) && decide (s.size ≤ 40),()) S := fun K' => by
   rw [ref4_within]
   have h1 := size_le 1 s.size
   have h2 := size_le s.size 40
   exact congrArg (fun b => K' (b,()) S) (congr (congrArg and h1) h2)
  simp only [e]
  unfold keyWords
  simp only [List.any_cons,List.any_nil]
  generalize strEq s (bs [109,97,99,114,111]) = b1
  generalize strEq s (bs [102,111,114]) = b2
  generalize strEq s (bs [105,110]) = b3
  generalize strEq s (bs [105,102]) = b4
  generalize strEq s (bs [101,108,115,101]) = b5
  generalize strEq s (bs [117,115,101]) = b6
  generalize strEq s (bs [102,105,108,101,115]) = b7
  generalize strEq s (bs [99,104,111,111,115,101]) = b8
  cases b1 with
  | true => rfl
  | false =>
  cases b2 with
  | true => rfl
  | false =>
  cases b3 with
  | true => rfl
  | false =>
  cases b4 with
  | true => rfl
  | false =>
  cases b5 with
  | true => rfl
  | false =>
  cases b6 with
  | true => rfl
  | false =>
  cases b7 with
  | true => rfl
  | false =>
  cases b8 <;> rfl
 ·rw [scan_cond]
  cases scan (fun j => cond (nameAt s j) none (some false)) true s.size 0 <;> rfl
theorem prog_words8 (k : Nat) (S : List LV) (K : List LV × Unit → List LV → Option R) : G.script_words.fn k () S K = K (keyWords.map .str,()) S := rfl
theorem prog_isSmall (k : Nat) (c : Int) (S : List LV) (K : Bool × Unit → List LV → Option R) : G.script_isSmall.fn k (c,()) S K = K (smallB c,()) S := by
 unfold G.script_isSmall.fn smallB
 dsimp only
 cases decide (c ≥ 97) <;> rfl
theorem prog_isDigit (k : Nat) (c : Int) (S : List LV) (K : Bool × Unit → List LV → Option R) : G.script_isDigit.fn k (c,()) S K = K (digitB c,()) S := by
 unfold G.script_isDigit.fn digitB
 dsimp only
 cases decide (c ≥ 48) <;> rfl
theorem prog_IsName {k : Nat} (hk : Many k) (s : ByteArray) (S : List LV) (K : Bool × Unit → List LV → Option R) : G.script_IsName.fn k (s,()) S K = K (isNameS s,()) S := by
 have hk' := hk
 unfold Many at hk'
 unfold G.script_IsName.fn
 dsimp only
 by_cases h1 : 1 ≤ s.size
 ·rw [ifB_neg (show ¬ (s.size : Int) < 1 by omega)]
  by_cases h2 : s.size ≤ 40
  ·rw [ifB_neg (show ¬ (s.size : Int) > 40 by omega)]
   have e0 : ∀ K' : Int → Option R,idxStr s 0 K' = K' (bt s 0) := fun K' => idxStr_nat (i := 0) (by omega) K'
   rw [e0,prog_isSmall]
   dsimp only
   obtain ⟨d,hd⟩ : ∃ d,s.size = d + 1 := ⟨s.size - 1,by omega⟩
   have hn : isNameS s = (scan (fun i => cond (nameAt s i) none (some false)) true s.size 0 && !(keyWords.any (strEq s))) := by
    unfold isNameS
    rw [decide_eq_true h1,decide_eq_true h2]
    cases keyWords.any (strEq s) <;> rfl
   cases hsm : smallB (bt s 0) with
   | false =>
    rw [Bool.not_false,ifB_true,hn,hd]
    have : nameAt s 0 = false := by
     unfold nameAt
     show (smallB (bt s 0) || _) = false
     rw [hsm]; rfl
    simp only [scan,this]
    rfl
   | true =>
    rw [Bool.not_true,ifB_false,hn]
    refine Eq.trans (rounds_scan0 (fun i => (s,(s.size : Int),(i : Int),())) S s.size k (fun i => cond (nameAt s i) none (some (K (false,()) S))) (K (!(keyWords.any (strEq s)),()) S) (fun rec i hi => ?_) (fun rec => ?_) (by omega)) ?_
    ·unfold G.script_IsName.b0
     dsimp only
     rw [lt_nat,ifB_pos hi]
     simp only [idxStr_nat hi,wrap_succ (show i < 9223372036854775807 by omega),prog_isSmall,prog_isDigit]
     have hna : nameAt s i = (smallB (bt s i) || (digitB (bt s i) || (bt s i == 95))) := by
      unfold nameAt
      by_cases hi0 : i = 0
      ·subst hi0
       show (smallB (bt s 0) || _) = (smallB (bt s 0) || _)
       rw [hsm]; rfl
      ·rw [decide_eq_false hi0]; rfl
     rw [hna]
     have e1 : (bt s (i : Int) != 95) = !(bt s (i : Int) == 95) := rfl
     rw [e1]
     cases smallB (bt s (i : Int)) <;> cases digitB (bt s (i : Int)) <;> cases (bt s (i : Int) == 95) <;> rfl
    ·unfold G.script_IsName.b0
     dsimp only
     rw [lt_nat,ifB_neg (Nat.lt_irrefl _),prog_words8]
     dsimp only
     rw [contains_at hk keyWords (by decide)]
    ·rw [scan_cond]
     cases scan (fun j => cond (nameAt s j) none (some false)) true s.size 0 <;> rfl
  ·rw [ifB_pos (show (s.size : Int) > 40 by omega)]
   have : isNameS s = false := by
    unfold isNameS
    rw [decide_eq_false h2]; simp
   rw [this]
 ·rw [ifB_pos (show (s.size : Int) < 1 by omega)]
  have : isNameS s = false := by
   unfold isNameS
   rw [decide_eq_false h1]; simp
  rw [this]
theorem idx_okF {ok : Int → Bool} (hh : ∀ c,128 ≤ c → ok c = false) {p : Nat → Bool} (hp : ∀ x,x ≤ 1114111 → p x = !(ok (x : Int))) (s : ByteArray) : ∀ (f pos : Nat),s.size ≤ pos + f → decide (Lib.idxFuncFrom p true s f pos ≥ 0) = !(scan (fun i => cond (ok (bt s i)) none (some false)) true (s.size - pos) pos)
 | 0,pos,h => by
  have : s.size - pos = 0 := by omega
  rw [this]; rfl
 | f + 1,pos,h => by
  unfold Lib.idxFuncFrom
  by_cases hps : pos < s.size
  ·obtain ⟨d,hd⟩ : ∃ d,s.size - pos = d + 1 := ⟨s.size - pos - 1,by omega⟩
   rw [if_pos hps,hd]
   simp only [scan]
   rw [hp _ (Lib.rune_le s pos)]
   have hb := bt_nat hps
   rcases Nat.lt_or_ge (s[pos]'hps).toNat 128 with h1 | h1
   ·rw [decode_ascii s pos hps h1,← hb]
    cases ho : ok (bt s pos) with
    | true =>
     have ih := idx_okF hh hp s f (pos + 1) (by omega)
     have : s.size - (pos + 1) = d := by omega
     rw [this] at ih
     simpa using ih
    | false => simp
   ·obtain ⟨h2,_⟩ := decode_high s pos hps h1
    have h3 : ok (((Utf8.decode s pos).1 : Nat) : Int) = false := hh _ (by omega)
    have h4 : ok (bt s pos) = false := hh _ (by rw [hb]; omega)
    rw [h3,h4]
    simp
  ·have : s.size - pos = 0 := by omega
   rw [if_neg hps,this]; rfl
def okV (c : Int) : Bool := decide (32 ≤ c) && decide (c ≤ 126)
theorem pred_var (k x : Nat) : predA ((G.action_checkVars_1.en (R := Bool) k).h) x = some (!(okV (x : Int))) := by
 show (G.action_checkVars_1.fn k ((x : Int),()) [] fun r S => (match resE G.action_checkVars_1.rs r with | .bool b => some b | _ => none) : Option Bool) = _
 unfold G.action_checkVars_1.fn okV
 dsimp only
 by_cases h1 : (x : Int) < 32
 ·have h2 : ¬ (32 ≤ (x : Int)) := by omega
  rw [ifB_pos h1]
  simp only [h2,decide_false,Bool.false_and]
  rfl
 ·have h2 : 32 ≤ (x : Int) := by omega
  rw [ifB_neg h1]
  by_cases h3 : (x : Int) > 126
  ·have h4 : ¬ ((x : Int) ≤ 126) := by omega
   simp only [h3,h4,decide_false,decide_true,Bool.and_false]
   rfl
  ·have h4 : (x : Int) ≤ 126 := by omega
   simp only [h2,h3,h4,decide_false,decide_true,Bool.and_true]
   rfl
theorem prog_badValue (k : Nat) (s : ByteArray) (S : List LV) (K : Bool × Unit → List LV → Option R) : G.strings_ContainsFunc_at_action_checkVars_1.fn k (s,(),()) S K = K (!(allB 32 126 s),()) S := by
 unfold G.strings_ContainsFunc_at_action_checkVars_1.fn G.strings_IndexFunc_at_action_checkVars_1.fn H.indexFunc_at_action_checkVars_1.fn H.indexFunc.fn handF idxFF
 dsimp only
 have hok : H.indexFuncOk ((G.action_checkVars_1.en (R := Bool) k).h) := fun x _ => by rw [pred_var]; simp
 rw [show (Classical.propDecidable (H.indexFuncOk ((G.action_checkVars_1.en (R := Bool) k).h))).decide = true from @decide_eq_true _ (Classical.propDecidable _) hok]
 dsimp only
 have h := idx_okF (ok := okV) (fun c hc => by unfold okV; rw [decide_eq_false (show ¬ c ≤ 126 by omega),Bool.and_false]) (p := fun x => (predA ((G.action_checkVars_1.en (R := Bool) k).h) x).getD false) (fun x _ => by simp only [pred_var]; rfl) s s.size 0 (by omega)
 rw [Nat.sub_zero] at h
 have e : allB 32 126 s = scan (fun i => cond (okV (bt s i)) none (some false)) true s.size 0 := rfl
 rw [e,← h]
 rfl
abbrev AVar := ByteArray × ByteArray
def varL (x : AVar) : LV := .agg [.str x.1,.str x.2]
def varZ : AVar := (bs [],bs [])
def varS (l : List AVar) (i : Nat) : Option Int :=
 cond (!(isNameS (l.getD i varZ).1)) (some 5) (cond (decide ((l.getD i varZ).2.size > 300) || !(allB 32 126 (l.getD i varZ).2)) (some 3)
  (cond (decide (0 < i) && (strLt (l.getD i varZ).1 (l.getD (i - 1) varZ).1 || strEq (l.getD i varZ).1 (l.getD (i - 1) varZ).1)) (some 8) none))
def varsS (l : List AVar) : Int := cond (decide (l.length > 30)) 2 (scan (varS l) 0 l.length 0)
theorem var_get (l : List AVar) (i : Nat) (h : i < l.length) : (l.map varL).getD i .any = varL (l.getD i varZ) := by simp [List.getD_eq_getElem?_getD,h]
theorem varL_mat (x : AVar) (K : List LV → Option R) : mat 2 (varL x) K = K [.str x.1,.str x.2] := rfl
theorem varL_0 (x : AVar) (K : ByteArray → Option R) : asStr (leaf (varL x) 0) K = K x.1 := rfl
theorem varL_1 (x : AVar) (K : ByteArray → Option R) : asStr (leaf (varL x) 1) K = K x.2 := rfl
theorem mem_get {α : Type} {l : List α} {i : Nat} {z : α} (h : i < l.length) : l.getD i z ∈ l := by
 rw [List.getD_eq_getElem?_getD,List.getElem?_eq_getElem h]; exact List.getElem_mem h
theorem var_prev (l : List AVar) (i : Nat) (hi : i < l.length) (hl : l.length ≤ 140737488355328) (a : Option R) (J : Option R) :
  ifB (decide ((i : Int) > 0)) (idxL (l.map varL) (IntKind.wrap .i64 ((i : Int) - 1)) fun v => asStr (leaf v 0) fun s => ifB (strLt (l.getD i varZ).1 s || strEq (l.getD i varZ).1 s) a J) J =
   cond (decide (0 < i) && (strLt (l.getD i varZ).1 (l.getD (i - 1) varZ).1 || strEq (l.getD i varZ).1 (l.getD (i - 1) varZ).1)) a J := by
 by_cases h0 : 0 < i
 ·rw [ifB_pos (show (i : Int) > 0 by omega),decide_eq_true h0,wrap_pred h0 (by omega),idxL_nat (by simp; omega),var_get _ _ (by omega),varL_0,Bool.true_and]
  cases (strLt (l.getD i varZ).1 (l.getD (i - 1) varZ).1 || strEq (l.getD i varZ).1 (l.getD (i - 1) varZ).1) <;> rfl
 ·rw [ifB_neg (show ¬ (i : Int) > 0 by omega),decide_eq_false h0]; rfl
theorem gt300 (n : Nat) : decide ((n : Int) > 300) = decide (n > 300) := gt_nat n 300
theorem ref_checkVars {k : Nat} (hk : Many k) (l : List AVar) (hs : ∀ x ∈ l,x.1.size ≤ 140737488355328) (S : List LV) (K : Int × Unit → List LV → Option R) : G.smithyardref5_checkVars.fn k (l.map varL,()) S K = K (varsS l,()) S := by
 have hk' := hk
 unfold Many at hk'
 unfold G.smithyardref5_checkVars.fn varsS
 dsimp only
 rw [List.length_map,show decide ((l.length : Int) > 30) = decide (l.length > 30) from gt_nat _ 30]
 cases hc : decide (l.length > 30) with
 | true => rfl
 | false =>
  have hlen : l.length ≤ 30 := by have := of_decide_eq_false hc; omega
  rw [ifB_false,cond_false]
  rw [← scan_map (fun n => K (n,()) S)]
  refine rounds_scan0 (fun i => (l.map varL,(i : Int),())) S l.length k _ _ (fun rec i hi => ?_) (fun rec => ?_) (by omega)
  ·unfold G.smithyardref5_checkVars.b0 G.smithyardref5_checkVars.q0 G.smithyardref5_checkVars.q1
   dsimp only
   have hi2 : i < (l.map varL).length := by simpa using hi
   rw [List.length_map,lt_nat,ifB_pos hi]
   simp only [idxL_nat hi2,var_get _ _ hi,varL_0,varL_1,ref_IsName hk _ (hs _ (mem_get hi)),gt300,wrap_succ (show i < 9223372036854775807 by omega),var_prev l i hi (by omega)]
   unfold varS
   cases isNameS (l.getD i varZ).1 with
   | false => rfl
   | true =>
    simp only [Bool.not_true,ifB_false,cond_false]
    cases hz : decide ((l.getD i varZ).2.size > 300) with
    | true => rfl
    | false =>
     have := of_decide_eq_false hz
     rw [ref_allB hk _ (by omega)]
     dsimp only
     cases allB 32 126 (l.getD i varZ).2 with
     | false => rfl
     | true =>
      simp only [Bool.not_true,ifB_false,Bool.or_false,cond_false]
      cases (decide (0 < i) && (strLt (l.getD i varZ).1 (l.getD (i - 1) varZ).1 || strEq (l.getD i varZ).1 (l.getD (i - 1) varZ).1)) <;> rfl
  ·unfold G.smithyardref5_checkVars.b0
   dsimp only
   rw [List.length_map,lt_nat,ifB_neg (Nat.lt_irrefl _)]
theorem prog_checkVars {k : Nat} (hk : Many k) (l : List AVar) (S : List LV) (K : Int × Unit → List LV → Option R) : G.action_checkVars.fn k (l.map varL,()) S K = K (varsS l,()) S := by
 have hk' := hk
 unfold Many at hk'
 unfold G.action_checkVars.fn varsS
 dsimp only
 rw [List.length_map,show decide ((l.length : Int) > 30) = decide (l.length > 30) from gt_nat _ 30]
 cases hc : decide (l.length > 30) with
 | true => rfl
 | false =>
  have hlen : l.length ≤ 30 := by have := of_decide_eq_false hc; omega
  rw [ifB_false,cond_false]
  rw [← scan_map (fun n => K (n,()) S)]
  refine rounds_scan0 (fun i => (l.map varL,l.map varL,(l.length : Int),(i : Int),())) S l.length k _ _ (fun rec i hi => ?_) (fun rec => ?_) (by omega)
  ·unfold G.action_checkVars.b0 G.action_checkVars.q0
   dsimp only
   have hi2 : i < (l.map varL).length := by simpa using hi
   rw [lt_nat,ifB_pos hi]
   simp only [idxL_nat hi2,var_get _ _ hi,varL_mat,List.getD_cons_zero,List.getD_cons_succ,asStr_str,prog_IsName hk,gt300,wrap_succ (show i < 9223372036854775807 by omega),prog_badValue,var_prev l i hi (by omega)]
   unfold varS
   generalize (decide (0 < i) && (strLt (l.getD i varZ).1 (l.getD (i - 1) varZ).1 || strEq (l.getD i varZ).1 (l.getD (i - 1) varZ).1)) = b4
   generalize decide ((l.getD i varZ).2.size > 300) = b2
   generalize allB 32 126 (l.getD i varZ).2 = b3
   generalize isNameS (l.getD i varZ).1 = b1
   cases b1 <;> cases b2 <;> cases b3 <;> cases b4 <;> rfl
  ·unfold G.action_checkVars.b0
   dsimp only
   rw [lt_nat,ifB_neg (Nat.lt_irrefl _)]
end
end Go.Lm
set_option maxRecDepth 100000
namespace Go.Lm
section
variable {R : Type}
theorem setS_of (S : List LV) (K : List LV → Option R) : setS S K = K S := rfl
def firstE (step : Nat → Option Int) (n : Nat) : Option Int := scan (fun i => (step i).map some) none n 0
theorem scan_firstE {β : Type} (f : Int → β) (fin : β) (step : Nat → Option Int) : ∀ (d i : Nat),scan (fun j => (step j).map f) fin d i = ((scan (fun j => (step j).map some) none d i).map f).getD fin
 | 0,_ => rfl
 | d + 1,i => by
  have ih := scan_firstE f fin step d (i + 1)
  simp only [scan]
  cases step i with
  | some r => rfl
  | none => exact ih
def liesS (p q : ByteArray) : Bool := cond (decide (q.size + 1 ≤ p.size)) (strEq (p.extract 0 (q.size + 1)) (q ++ bs [47])) false
theorem prefix_of (k : Nat) (p t : ByteArray) (S : List LV) (K : Bool × Unit → List LV → Option R) : G.strings_HasPrefix.fn k (p,t,()) S K = K (cond (decide (t.size ≤ p.size)) (strEq (p.extract 0 t.size) t) false,()) S := by
 unfold G.strings_HasPrefix.fn G.internal_stringslite_HasPrefix.fn
 dsimp only
 by_cases h : t.size ≤ p.size
 ·rw [ifB_pos (show (p.size : Int) ≥ (t.size : Int) by omega),decide_eq_true h,slStr_nat h]; rfl
 ·rw [ifB_neg (show ¬ (p.size : Int) ≥ (t.size : Int) by omega),decide_eq_false h]; rfl
theorem size_slash (q : ByteArray) : (q ++ bs [47]).size = q.size + 1 := by rw [ByteArray.size_append]; rfl
theorem cat_slash {q : ByteArray} (h : q.size ≤ 140737488355328) (K : ByteArray → Option R) : catStr q (bs [47]) K = K (q ++ bs [47]) := by
 unfold catStr
 rw [ifB_pos (by have : (bs [47]).size = 1 := rfl; omega)]
theorem ref_Lies (k : Nat) (p q : ByteArray) (hq : q.size ≤ 140737488355328) (S : List LV) (K : Bool × Unit → List LV → Option R) : G.smithyardref1_Lies.fn k (p,q,()) S K = K (liesS p q,()) S := by
 unfold G.smithyardref1_Lies.fn liesS
 dsimp only
 rw [cat_slash hq,prefix_of,size_slash]
theorem prog_Within (k : Nat) (p q : ByteArray) (hq : q.size ≤ 140737488355328) (S : List LV) (K : Bool × Unit → List LV → Option R) : G.blob_Within.fn k (p,q,()) S K = K (liesS p q,()) S := by
 unfold G.blob_Within.fn liesS
 dsimp only
 rw [cat_slash hq,prefix_of,size_slash]
def outS (l : List ByteArray) (i : Nat) : Option Int :=
 cond (!(isPathS (l.getD i (bs [])))) (some 3) (cond (decide (0 < i) && (strLt (l.getD i (bs [])) (l.getD (i - 1) (bs [])) || strEq (l.getD i (bs [])) (l.getD (i - 1) (bs [])))) (some 8) none)
def underS (l : List ByteArray) (p : ByteArray) : Bool := l.any fun q => liesS p q
def outsS (l : List ByteArray) : Int := cond (decide (l.length = 0)) 9 (cond (decide (l.length > 100)) 2 ((firstE (outS l) l.length).getD (cond (l.any (underS l)) 12 0)))
theorem out_prev (l : List ByteArray) (i : Nat) (hi : i < l.length) (hl : l.length ≤ 140737488355328) (a : Option R) (J : Option R) :
  ifB (decide ((i : Int) > 0)) (idxL (l.map LV.str) (IntKind.wrap .i64 ((i : Int) - 1)) fun v => asStr (leaf v 0) fun s => ifB (strLt (l.getD i (bs [])) s || strEq (l.getD i (bs [])) s) a J) J =
   cond (decide (0 < i) && (strLt (l.getD i (bs [])) (l.getD (i - 1) (bs [])) || strEq (l.getD i (bs [])) (l.getD (i - 1) (bs [])))) a J := by
 by_cases h0 : 0 < i
 ·rw [ifB_pos (show (i : Int) > 0 by omega),decide_eq_true h0,wrap_pred h0 (by omega),idxL_nat (by simp; omega),map_str_get l _ (by omega),asLeaf_str,Bool.true_and]
  cases (strLt (l.getD i (bs [])) (l.getD (i - 1) (bs [])) || strEq (l.getD i (bs [])) (l.getD (i - 1) (bs []))) <;> rfl
 ·rw [ifB_neg (show ¬ (i : Int) > 0 by omega),decide_eq_false h0]; rfl
theorem ref_outs1 {k : Nat} (hk : Many k) (l : List ByteArray) (hl : l.length ≤ 100) (S : List LV) (J0 : List LV × Unit → List LV → Option R) (Jret : Int × Unit → List LV → Option R) :
  rounds (G.smithyardref5_checkOutputs.b0 k J0 Jret) k (l.map .str,(0 : Int),()) S = ((firstE (outS l) l.length).map fun n => Jret (n,()) S).getD (J0 (l.map .str,()) S) := by
 have hk' := hk
 unfold Many at hk'
 unfold firstE
 rw [← scan_firstE]
 refine rounds_scan0 (fun i => (l.map LV.str,(i : Int),())) S l.length k _ _ (fun rec i hi => ?_) (fun rec => ?_) (by omega)
 ·unfold G.smithyardref5_checkOutputs.b0 G.smithyardref5_checkOutputs.q0
  dsimp only
  have hi2 : i < (l.map LV.str).length := by simpa using hi
  rw [List.length_map,lt_nat,ifB_pos hi]
  simp only [idxL_nat hi2,map_str_get l i hi,asLeaf_str,ref_IsPath hk,wrap_succ (show i < 9223372036854775807 by omega),out_prev l i hi (by omega)]
  unfold outS
  generalize (decide (0 < i) && (strLt (l.getD i (bs [])) (l.getD (i - 1) (bs [])) || strEq (l.getD i (bs [])) (l.getD (i - 1) (bs [])))) = b2
  cases isPathS (l.getD i (bs [])) <;> cases b2 <;> rfl
 ·unfold G.smithyardref5_checkOutputs.b0
  dsimp only
  rw [List.length_map,lt_nat,ifB_neg (Nat.lt_irrefl _)]
theorem ref_outs2 {k : Nat} (hk : Many k) (l : List ByteArray) (hl : l.length ≤ 100) (hs : ∀ w ∈ l,w.size ≤ 140737488355328) (j : Nat) (hj : j < l.length) (S : List LV) (J4 : List LV × Int × Unit → List LV → Option R) (Jret : Int × Unit → List LV → Option R) :
  rounds (G.smithyardref5_checkOutputs.b2 k J4 Jret) k (l.map .str,(j : Int),(0 : Int),()) S = cond (underS l (l.getD j (bs []))) (Jret (12,()) S) (J4 (l.map .str,(j : Int),()) S) := by
 have hk' := hk
 unfold Many at hk'
 have h := rounds_scan0 (b := G.smithyardref5_checkOutputs.b2 k J4 Jret) (fun i => (l.map LV.str,(j : Int),(i : Int),())) S l.length k (fun i => cond (liesS (l.getD j (bs [])) (l.getD i (bs []))) (some (Jret (12,()) S)) none) (J4 (l.map .str,(j : Int),()) S) (fun rec i hi => ?_) (fun rec => ?_) (by omega)
 ·refine Eq.trans h ?_
  rw [scan_first0 (bs []) (fun q => liesS (l.getD j (bs [])) q)]
  rfl
 ·unfold G.smithyardref5_checkOutputs.b2
  dsimp only
  have hi2 : i < (l.map LV.str).length := by simpa using hi
  have hj2 : j < (l.map LV.str).length := by simpa using hj
  rw [List.length_map,lt_nat,ifB_pos hi]
  simp only [idxL_nat hi2,idxL_nat hj2,map_str_get l i hi,map_str_get l j hj,asLeaf_str,ref_Lies k _ _ (get_size hs i hi),wrap_succ (show i < 9223372036854775807 by omega)]
  cases liesS (l.getD j (bs [])) (l.getD i (bs [])) <;> rfl
 ·unfold G.smithyardref5_checkOutputs.b2
  dsimp only
  rw [List.length_map,lt_nat,ifB_neg (Nat.lt_irrefl _)]
theorem ref_checkOutputs {k : Nat} (hk : Many k) (l : List ByteArray) (hs : ∀ w ∈ l,w.size ≤ 140737488355328) (S : List LV) (K : Int × Unit → List LV → Option R) : G.smithyardref5_checkOutputs.fn k (l.map .str,()) S K = K (outsS l,()) S := by
 have hk' := hk
 unfold Many at hk'
 unfold G.smithyardref5_checkOutputs.fn outsS
 dsimp only
 rw [List.length_map,eq0_nat,show decide ((l.length : Int) > 100) = decide (l.length > 100) from gt_nat _ 100]
 cases decide (l.length = 0) with
 | true => rfl
 | false =>
  cases hc : decide (l.length > 100) with
  | true => rfl
  | false =>
   have hlen : l.length ≤ 100 := by have := of_decide_eq_false hc; omega
   rw [ifB_false,ifB_false,ref_outs1 hk l hlen]
   cases firstE (outS l) l.length with
   | some e => rfl
   | none =>
    show rounds (G.smithyardref5_checkOutputs.b1 k _ _) k (l.map LV.str,(0 : Int),()) S = K (cond (l.any (underS l)) 12 0,()) S
    have h := rounds_scan0 (b := G.smithyardref5_checkOutputs.b1 k (fun (_ : Unit) S => K (0,()) S) (fun (o : Int × Unit) S => K (o.1,()) S)) (fun i => (l.map LV.str,(i : Int),())) S l.length k (fun i => cond (underS l (l.getD i (bs []))) (some (K (12,()) S)) none) (K (0,()) S) (fun rec i hi => ?_) (fun rec => ?_) (by omega)
    ·refine Eq.trans h ?_
     rw [scan_first0 (bs []) (underS l)]
     cases l.any (underS l) <;> rfl
    ·unfold G.smithyardref5_checkOutputs.b1
     dsimp only
     rw [List.length_map,lt_nat,ifB_pos hi,ref_outs2 hk l hlen hs i hi,wrap_succ (by omega)]
     cases underS l (l.getD i (bs [])) <;> rfl
    ·unfold G.smithyardref5_checkOutputs.b1
     dsimp only
     rw [List.length_map,lt_nat,ifB_neg (Nat.lt_irrefl _)]
theorem prog_outs1 {k : Nat} (hk : Many k) (l : List ByteArray) (hl : l.length ≤ 100) (S : List LV) (J0 : List LV × Unit → List LV → Option R) (Jret : Int × Unit → List LV → Option R) :
  rounds (G.action_checkOutputs.b0 k J0 Jret) k (l.map .str,l.map .str,(l.length : Int),(0 : Int),()) S = ((firstE (outS l) l.length).map fun n => Jret (n,()) S).getD (J0 (l.map .str,()) S) := by
 have hk' := hk
 unfold Many at hk'
 unfold firstE
 rw [← scan_firstE]
 refine rounds_scan0 (fun i => (l.map LV.str,l.map LV.str,(l.length : Int),(i : Int),())) S l.length k _ _ (fun rec i hi => ?_) (fun rec => ?_) (by omega)
 ·unfold G.action_checkOutputs.b0
  dsimp only
  have hi2 : i < (l.map LV.str).length := by simpa using hi
  rw [lt_nat,ifB_pos hi]
  simp only [idxL_nat hi2,map_str_get l i hi,asLeaf_str,prog_IsPath hk,wrap_succ (show i < 9223372036854775807 by omega),out_prev l i hi (by omega)]
  unfold outS
  generalize (decide (0 < i) && (strLt (l.getD i (bs [])) (l.getD (i - 1) (bs [])) || strEq (l.getD i (bs [])) (l.getD (i - 1) (bs [])))) = b2
  cases isPathS (l.getD i (bs [])) <;> cases b2 <;> rfl
 ·unfold G.action_checkOutputs.b0
  dsimp only
  rw [lt_nat,ifB_neg (Nat.lt_irrefl _)]
theorem prog_under {k : Nat} (hk : Many k) (l : List ByteArray) (hl : l.length ≤ 100) (hs : ∀ w ∈ l,w.size ≤ 140737488355328) (p : ByteArray) (id : Nat) (S : List LV) (hS : S.getD id .any = .obj 9 [.str p]) (K : Bool × Unit → List LV → Option R) :
  G.slices_ContainsFunc_s_string_string_at_action_checkOutputs_1.fn k (l.map .str,((id,0),()),()) S K = K (underS l p,()) S := by
 have hk' := hk
 unfold Many at hk'
 unfold G.slices_ContainsFunc_s_string_string_at_action_checkOutputs_1.fn G.slices_IndexFunc_s_string_string_at_action_checkOutputs_1.fn
 dsimp only
 rw [List.length_map]
 have h := rounds_scan0 (b := G.slices_IndexFunc_s_string_string_at_action_checkOutputs_1.b0 k (fun (_ : Unit) S => K (decide ((-1 : Int) ≥ 0),()) S) (fun (o5 : Int × Unit) S => K (decide (o5.1 ≥ 0),()) S)) (fun i => (l.map LV.str,((id,0),()),(l.length : Int),(i : Int),())) S l.length k (fun i => cond (liesS p (l.getD i (bs []))) (some (K (true,()) S)) none) (K (false,()) S) (fun rec i hi => ?_) (fun rec => ?_) (by omega)
 ·refine Eq.trans h ?_
  rw [scan_first0 (bs []) (fun q => liesS p q)]
  unfold underS
  cases l.any fun q => liesS p q <;> rfl
 ·unfold G.slices_IndexFunc_s_string_string_at_action_checkOutputs_1.b0 G.action_checkOutputs_1.fn
  dsimp only
  have hi2 : i < (l.map LV.str).length := by simpa using hi
  have hld : ∀ K : ByteArray → Option R,ldStr [LV.str p] 0 K = K p := fun _ => rfl
  rw [lt_nat,ifB_pos hi]
  simp only [idxL_nat hi2,map_str_get l i hi,asLeaf_str,at_of hS,hld,prog_Within k _ _ (get_size hs i hi),wrap_succ (show i < 9223372036854775807 by omega)]
  have e : decide ((i : Int) ≥ 0) = true := decide_eq_true (by omega)
  cases liesS p (l.getD i (bs [])) with
  | false => rfl
  | true =>
   show K (decide ((i : Int) ≥ 0),()) S = K (true,()) S
   rw [e]
 ·unfold G.slices_IndexFunc_s_string_string_at_action_checkOutputs_1.b0
  dsimp only
  rw [lt_nat,ifB_neg (Nat.lt_irrefl _)]
  rfl
def boxes (l : List ByteArray) (i : Nat) : List LV := (l.take i).map fun p => LV.obj 9 [.str p]
theorem boxes_succ (l : List ByteArray) (i : Nat) (hi : i < l.length) : boxes l (i + 1) = boxes l i ++ [.obj 9 [.str (l.getD i (bs []))]] := by
 unfold boxes
 rw [List.take_succ_eq_append_getElem hi,List.map_append,List.getD_eq_getElem?_getD,List.getElem?_eq_getElem hi]; rfl
theorem set_last (S : List LV) (a b : LV) : (S ++ [a]).set S.length b = S ++ [b] := by simp
theorem get_last (S : List LV) (a : LV) : (S ++ [a]).getD S.length .any = a := by simp [List.getD_eq_getElem?_getD]
theorem prog_checkOutputs0 {k : Nat} (hk : Many k) (l : List ByteArray) (hs : ∀ w ∈ l,w.size ≤ 140737488355328) (S : List LV) : ∃ X,∀ K : Int × Unit → List LV → Option R,G.action_checkOutputs.fn0 k (l.map .str,()) S K = K (outsS l,()) (S ++ X) := by
 have hk' := hk
 unfold Many at hk'
 unfold G.action_checkOutputs.fn0 outsS
 dsimp only
 rw [List.length_map,eq0_nat,show decide ((l.length : Int) > 100) = decide (l.length > 100) from gt_nat _ 100]
 cases decide (l.length = 0) with
 | true => exact ⟨[],fun K => by rw [List.append_nil]; rfl⟩
 | false =>
  cases hc : decide (l.length > 100) with
  | true => exact ⟨[],fun K => by rw [List.append_nil]; rfl⟩
  | false =>
   have hlen : l.length ≤ 100 := by have := of_decide_eq_false hc; omega
   simp only [ifB_false,prog_outs1 hk l hlen,cond_false]
   cases firstE (outS l) l.length with
   | some e => exact ⟨[],fun K => by rw [List.append_nil]; rfl⟩
   | none =>
    have h := fun (K : Int × Unit → List LV → Option R) => rounds_scan (b := G.action_checkOutputs.b1 k (fun (_ : Unit) S => K (0,()) S) (fun (o : Int × Unit) S => K (o.1,()) S)) (fun i => (l.map LV.str,l.map LV.str,(l.length : Int),(i : Int),())) (fun i => S ++ boxes l i) l.length (fun i => cond (underS l (l.getD i (bs []))) (some (K (12,()) (S ++ boxes l (i + 1)))) none) (K (0,()) (S ++ boxes l l.length)) (fun rec i hi => ?_) (fun rec => ?_) l.length 0 k (by omega) (by omega)
    ·have hs2 : ∀ (d i : Nat),∃ X,∀ K : Int × Unit → List LV → Option R,scan (fun i => cond (underS l (l.getD i (bs []))) (some (K (12,()) (S ++ boxes l (i + 1)))) none) (K (0,()) (S ++ boxes l l.length)) d i = K (scan (fun i => cond (underS l (l.getD i (bs []))) (some 12) none) 0 d i,()) (S ++ X) := fun d => by
      induction d with
      | zero => exact fun i => ⟨_,fun K => rfl⟩
      | succ d ih =>
       intro i
       simp only [scan]
       cases underS l (l.getD i (bs [])) with
       | true => exact ⟨_,fun K => rfl⟩
       | false => exact ih (i + 1)
     obtain ⟨X,hX⟩ := hs2 l.length 0
     refine ⟨X,fun K => ?_⟩
     show rounds (G.action_checkOutputs.b1 k _ _) k (l.map LV.str,l.map LV.str,(((l.map LV.str).length : Nat) : Int),(0 : Int),()) S = _
     rw [List.length_map]
     have h1 := h K
     have h0 : S ++ boxes l 0 = S := by unfold boxes; simp
     rw [h0] at h1
     refine Eq.trans h1 (Eq.trans (hX K) ?_)
     rw [scan_first0 (bs []) (underS l)]
     rfl
    ·unfold G.action_checkOutputs.b1
     dsimp only
     have hi2 : i < (l.map LV.str).length := by simpa using hi
     have hbox : (S ++ boxes l i ++ [LV.obj 9 [.str (bs [])]]).getD (S ++ boxes l i).length .any = .obj 9 [.str (bs [])] := get_last _ _
     have hbox2 : (S ++ boxes l i ++ [LV.obj 9 [.str (l.getD i (bs []))]]).getD (S ++ boxes l i).length .any = .obj 9 [.str (l.getD i (bs []))] := get_last _ _
     have hst : ∀ K : List LV → Option R,stO [LV.str (bs [])] 0 [.str (l.getD i (bs []))] K = K [.str (l.getD i (bs []))] := fun _ => rfl
     rw [lt_nat,ifB_pos hi,idxL_nat hi2,map_str_get l i hi,asLeaf_str]
     unfold newObj
     simp only [at_of hbox,hst,setS_of,set_last,prog_under hk l hlen hs _ _ _ hbox2,wrap_succ (show i < 9223372036854775807 by omega)]
     rw [boxes_succ l i hi,List.append_assoc]
     cases underS l (l.getD i (bs [])) <;> rfl
    ·unfold G.action_checkOutputs.b1
     dsimp only
     rw [lt_nat,ifB_neg (Nat.lt_irrefl _)]
theorem prog_checkOutputs {k : Nat} (hk : Many k) (l : List ByteArray) (hs : ∀ w ∈ l,w.size ≤ 140737488355328) (S : List LV) (K : Int × Unit → List LV → Option R) : G.action_checkOutputs.fn k (l.map .str,()) S K = K (outsS l,()) S := by
 obtain ⟨X,h⟩ := prog_checkOutputs0 (R := LV × List LV) hk l hs S
 exact popK_at (h _) rfl
structure Act where
 tool : ByteArray
 cmds : List (List ByteArray)
 vars : List AVar
 outs : List ByteArray
 needs : List AVar
 time : Int
def cmdL (c : List ByteArray) : LV := .sl 1 (c.map .str)
abbrev ActT := ByteArray × List LV × List LV × List LV × List LV × Int × Unit
def Act.tup (a : Act) : ActT := (a.tool,a.cmds.map cmdL,a.vars.map varL,a.outs.map .str,a.needs.map varL,a.time,())
structure ActOk (a : Act) : Prop where
 tool : a.tool.size ≤ 140737488355328
 cmds : ∀ c ∈ a.cmds,∀ w ∈ c,w.size ≤ 140737488355328
 vars : ∀ x ∈ a.vars,x.1.size ≤ 140737488355328
 outs : ∀ w ∈ a.outs,w.size ≤ 140737488355328
 needs : ∀ x ∈ a.needs,x.1.size ≤ 140737488355328
structure ActLen (a : Act) (n : Nat) : Prop where
 cmds : a.cmds.length ≤ n
 vars : a.vars.length ≤ n
 outs : a.outs.length ≤ n
 needs : a.needs.length ≤ n
def zT : ActT := (bs [],[],[],[],[],0,())
def cmdAt (l : List (List ByteArray)) (i : Nat) : Option Int := cond (cmdS (l.getD i []) == 0) none (some (cmdS (l.getD i [])))
def actS (a : Act) : Int := cond (isDigestS a.tool) (cond (decide (a.cmds.length = 0)) 9 (cond (decide (a.cmds.length > 50)) 2 ((firstE (cmdAt a.cmds) a.cmds.length).getD
 (cond (varsS a.vars == 0) (cond (outsS a.outs == 0) (cond (varsS a.needs == 0) (cond (decide (1 ≤ a.time) && decide (a.time ≤ 100000)) 0 1) (varsS a.needs)) (outsS a.outs)) (varsS a.vars))))) 3
theorem cmd_get (l : List (List ByteArray)) (i : Nat) (h : i < l.length) : (l.map cmdL).getD i .any = cmdL (l.getD i []) := by simp [List.getD_eq_getElem?_getD,h]
theorem cmdL_at (c : List ByteArray) (K : List LV → Option R) : asSl 1 (leaf (cmdL c) 0) K = K (c.map .str) := asSl_sl 1 _ K
theorem ne0 (n : Int) : (n != 0) = !(n == 0) := rfl
theorem ref_CheckAction {k : Nat} (hk : Many k) (a : Act) (ok : ActOk a) (S : List LV) (K : Int × Unit → List LV → Option R) : G.smithyardref5_CheckAction.fn k (a.tup,()) S K = K (actS a,()) S := by
 have hk' := hk
 unfold Many at hk'
 unfold G.smithyardref5_CheckAction.fn actS Act.tup
 dsimp only
 rw [ref_IsDigest hk _ ok.tool]
 dsimp only
 cases isDigestS a.tool with
 | false => rfl
 | true =>
  rw [Bool.not_true,ifB_false,cond_true,List.length_map,eq0_nat,show decide ((a.cmds.length : Int) > 50) = decide (a.cmds.length > 50) from gt_nat _ 50]
  cases decide (a.cmds.length = 0) with
  | true => rfl
  | false =>
   cases hc : decide (a.cmds.length > 50) with
   | true => rfl
   | false =>
    have hlen : a.cmds.length ≤ 50 := by have := of_decide_eq_false hc; omega
    rw [ifB_false,ifB_false,cond_false,cond_false]
    refine Eq.trans (rounds_scan0 (fun i => (a.tup,(i : Int),())) S a.cmds.length k (fun i => (cmdAt a.cmds i).map fun e => K (e,()) S) (K ((cond (varsS a.vars == 0) (cond (outsS a.outs == 0) (cond (varsS a.needs == 0) (cond (decide (1 ≤ a.time) && decide (a.time ≤ 100000)) 0 1) (varsS a.needs)) (outsS a.outs)) (varsS a.vars)),()) S) (fun rec i hi => ?_) (fun rec => ?_) (by omega)) ?_
    ·unfold G.smithyardref5_CheckAction.b0 Act.tup
     dsimp only
     have hi2 : i < (a.cmds.map cmdL).length := by simpa using hi
     rw [List.length_map,lt_nat,ifB_pos hi,idxL_nat hi2,cmd_get _ _ hi,cmdL_at,ref_checkCommand hk _ (ok.cmds _ (mem_get hi)),wrap_succ (by omega)]
     dsimp only
     unfold cmdAt
     rw [ne0]
     cases cmdS (a.cmds.getD i []) == 0 <;> rfl
    ·unfold G.smithyardref5_CheckAction.b0 Act.tup
     dsimp only
     rw [List.length_map,lt_nat,ifB_neg (Nat.lt_irrefl _)]
     simp only [ref_checkVars hk _ ok.vars,ref_checkVars hk _ ok.needs,ref_checkOutputs hk _ ok.outs,ref5_within,ne0]
     cases varsS a.vars == 0 with
     | false => rfl
     | true =>
      cases outsS a.outs == 0 with
      | false => rfl
      | true =>
       cases varsS a.needs == 0 with
       | false => rfl
       | true => cases decide (1 ≤ a.time) && decide (a.time ≤ 100000) <;> rfl
    ·rw [scan_firstE]
     unfold firstE
     cases scan (fun j => (cmdAt a.cmds j).map some) none a.cmds.length 0 <;> rfl
theorem prog_CheckAction {k : Nat} (hk : Many k) (a : Act) (ok : ActOk a) (S : List LV) (K : Int × Unit → List LV → Option R) : G.action_CheckAction.fn k (a.tup,()) S K = K (actS a,()) S := by
 have hk' := hk
 unfold Many at hk'
 unfold G.action_CheckAction.fn actS Act.tup
 dsimp only
 rw [prog_IsDigest (k := k)]
 dsimp only
 cases isDigestS a.tool with
 | false => rfl
 | true =>
  rw [Bool.not_true,ifB_false,cond_true,List.length_map,eq0_nat,show decide ((a.cmds.length : Int) > 50) = decide (a.cmds.length > 50) from gt_nat _ 50]
  cases decide (a.cmds.length = 0) with
  | true => rfl
  | false =>
   cases hc : decide (a.cmds.length > 50) with
   | true => rfl
   | false =>
    have hlen : a.cmds.length ≤ 50 := by have := of_decide_eq_false hc; omega
    rw [ifB_false,ifB_false,cond_false,cond_false]
    refine Eq.trans (rounds_scan0 (fun i => (a.tup,a.cmds.map cmdL,(a.cmds.length : Int),(i : Int),())) S a.cmds.length k (fun i => (cmdAt a.cmds i).map fun e => K (e,()) S) (K ((cond (varsS a.vars == 0) (cond (outsS a.outs == 0) (cond (varsS a.needs == 0) (cond (decide (1 ≤ a.time) && decide (a.time ≤ 100000)) 0 1) (varsS a.needs)) (outsS a.outs)) (varsS a.vars)),()) S) (fun rec i hi => ?_) (fun rec => ?_) (by omega)) ?_
    ·unfold G.action_CheckAction.b0 Act.tup
     dsimp only
     have hi2 : i < (a.cmds.map cmdL).length := by simpa using hi
     rw [lt_nat,ifB_pos hi,idxL_nat hi2,cmd_get _ _ hi,cmdL_at,prog_checkCommand hk _ (ok.cmds _ (mem_get hi)),wrap_succ (by omega)]
     dsimp only
     unfold cmdAt
     rw [ne0]
     cases cmdS (a.cmds.getD i []) == 0 <;> rfl
    ·unfold G.action_CheckAction.b0 Act.tup
     dsimp only
     rw [lt_nat,ifB_neg (Nat.lt_irrefl _)]
     simp only [prog_checkVars hk,prog_checkOutputs hk _ ok.outs,ne0]
     cases varsS a.vars == 0 with
     | false => rfl
     | true =>
      cases outsS a.outs == 0 with
      | false => rfl
      | true =>
       cases varsS a.needs == 0 with
       | false => rfl
       | true =>
        by_cases h1 : 1 ≤ a.time
        ·by_cases h2 : a.time ≤ 100000
         ·simp only [h1,h2,show ¬ a.time < 1 by omega,show ¬ a.time > 100000 by omega,decide_true,decide_false]; rfl
         ·simp only [h1,h2,show ¬ a.time < 1 by omega,show a.time > 100000 by omega,decide_true,decide_false]; rfl
        ·simp only [h1,show a.time < 1 by omega,decide_true,decide_false]; rfl
    ·rw [scan_firstE]
     unfold firstE
     cases scan (fun j => (cmdAt a.cmds j).map some) none a.cmds.length 0 <;> rfl
end
end Go.Lm
set_option maxRecDepth 100000
namespace Go.Lm
section
variable {R : Type}
theorem strEq_refl (s : ByteArray) : strEq s s = true := (strEq_iff _ _).2 rfl
theorem ref_sameWords {k : Nat} (hk : Many k) (l : List ByteArray) (hl : l.length ≤ 140737488355328) (S : List LV) (K : Bool × Unit → List LV → Option R) : G.smithyardref5_sameWords.fn k (l.map .str,l.map .str,()) S K = K (true,()) S := by
 unfold Many at hk
 unfold G.smithyardref5_sameWords.fn
 dsimp only
 rw [show (((l.map LV.str).length : Int) != ((l.map LV.str).length : Int)) = false by rw [bne_self_eq_false],ifB_false]
 refine Eq.trans (rounds_scan0 (fun i => (l.map LV.str,l.map LV.str,(i : Int),())) S l.length k (fun _ => none) (K (true,()) S) (fun rec i hi => ?_) (fun rec => ?_) (by omega)) ?_
 ·unfold G.smithyardref5_sameWords.b0
  dsimp only
  rw [List.length_map,lt_nat,ifB_pos hi]
  simp only [idxL_nat (show i < (l.map LV.str).length by simpa using hi),map_str_get l i hi,asLeaf_str,strEq_refl,wrap_succ (show i < 9223372036854775807 by omega)]
  rfl
 ·unfold G.smithyardref5_sameWords.b0
  dsimp only
  rw [List.length_map,lt_nat,ifB_neg (Nat.lt_irrefl _)]
 ·exact scan_none _ _ (fun _ _ _ => rfl)
theorem ref_SameAction {k : Nat} (hk : Many k) (a : Act) {n : Nat} (hl : ActLen a n) (hn : n ≤ 140737488355328) (hc : ∀ c ∈ a.cmds,c.length ≤ 140737488355328) (S : List LV) (K : Bool × Unit → List LV → Option R) : G.smithyardref5_SameAction.fn k (a.tup,a.tup,()) S K = K (true,()) S := by
 have hk' := hk
 unfold Many at hk'
 have l1 := hl.cmds
 have l2 := hl.vars
 have l3 := hl.outs
 have l4 := hl.needs
 unfold G.smithyardref5_SameAction.fn G.smithyardref5_SameAction.q0 G.smithyardref5_SameAction.q1
 unfold Act.tup
 dsimp only
 simp only [bne_self_eq_false,ifB_false]
 refine Eq.trans (rounds_scan0 (fun i => (a.tup,a.tup,(i : Int),())) S a.cmds.length k (fun _ => none) (K (true,()) S) (fun rec i hi => ?_) (fun rec => ?_) (by omega)) ?_
 ·unfold G.smithyardref5_SameAction.b0 Act.tup
  dsimp only
  rw [List.length_map,lt_nat,ifB_pos hi]
  simp only [idxL_nat (show i < (a.cmds.map cmdL).length by simpa using hi),cmd_get _ _ hi,cmdL_at,ref_sameWords hk _ (hc _ (mem_get hi)),wrap_succ (show i < 9223372036854775807 by omega)]
  rfl
 ·unfold G.smithyardref5_SameAction.b0 Act.tup
  dsimp only
  rw [List.length_map,lt_nat,ifB_neg (Nat.lt_irrefl _)]
  refine Eq.trans (rounds_scan0 (fun i => (a.tup,a.tup,(i : Int),())) S a.vars.length k (fun _ => none) (K (true,()) S) (fun rec i hi => ?_) (fun rec => ?_) (by omega)) ?_
  ·unfold G.smithyardref5_SameAction.b1 Act.tup
   dsimp only
   rw [List.length_map,lt_nat,ifB_pos hi]
   simp only [idxL_nat (show i < (a.vars.map varL).length by simpa using hi),var_get _ _ hi,varL_mat,List.getD_cons_zero,List.getD_cons_succ,asStr_str,strEq_refl,wrap_succ (show i < 9223372036854775807 by omega)]
   rfl
  ·unfold G.smithyardref5_SameAction.b1 Act.tup
   dsimp only
   rw [List.length_map,lt_nat,ifB_neg (Nat.lt_irrefl _)]
   refine Eq.trans (rounds_scan0 (fun i => (a.tup,a.tup,(i : Int),())) S a.needs.length k (fun _ => none) (K (true,()) S) (fun rec i hi => ?_) (fun rec => ?_) (by omega)) ?_
   ·unfold G.smithyardref5_SameAction.b2 Act.tup
    dsimp only
    rw [List.length_map,lt_nat,ifB_pos hi]
    simp only [idxL_nat (show i < (a.needs.map varL).length by simpa using hi),var_get _ _ hi,varL_mat,List.getD_cons_zero,List.getD_cons_succ,asStr_str,strEq_refl,wrap_succ (show i < 9223372036854775807 by omega)]
    rfl
   ·unfold G.smithyardref5_SameAction.b2 Act.tup
    dsimp only
    rw [List.length_map,lt_nat,ifB_neg (Nat.lt_irrefl _)]
    rw [strEq_refl,ifB_true,beq_self_eq_true,ifB_true,ref_sameWords hk _ (by omega)]
   ·exact scan_none _ _ (fun _ _ _ => rfl)
  ·exact scan_none _ _ (fun _ _ _ => rfl)
 ·exact scan_none _ _ (fun _ _ _ => rfl)
end
end Go.Lm
set_option maxRecDepth 100000
namespace Go.Lm
theorem firstE_none {step : Nat → Option Int} : ∀ (d i : Nat),scan (fun i => (step i).map some) (none : Option Int) d i = none → ∀ j,i ≤ j → j < i + d → step j = none
 | 0,_,_,_,_,_ => by omega
 | d + 1,i,h,j,h1,h2 => by
  simp only [scan] at h
  cases hs : step i with
  | some r => rw [hs] at h; cases h
  | none =>
   rw [hs] at h
   by_cases e : j = i
   ·subst e; exact hs
   ·exact firstE_none d (i + 1) h j (by omega) (by omega)
theorem firstE_some {step : Nat → Option Int} {P : Int → Prop} (hp : ∀ j r,step j = some r → P r) : ∀ (d i : Nat) (e : Int),scan (fun i => (step i).map some) (none : Option Int) d i = some e → P e
 | 0,_,_,h => by cases h
 | d + 1,i,e,h => by
  simp only [scan] at h
  cases hs : step i with
  | some r => rw [hs] at h; cases h; exact hp _ _ hs
  | none => rw [hs] at h; exact firstE_some hp d (i + 1) e h
theorem firstE_zero {step : Nat → Option Int} (hp : ∀ j r,step j = some r → r ≠ 0) {n : Nat} {x : Int} (h : (firstE step n).getD x = 0) : (∀ j,j < n → step j = none) ∧ x = 0 := by
 unfold firstE at h
 cases hs : scan (fun i => (step i).map some) (none : Option Int) n 0 with
 | some e => rw [hs] at h; exact absurd h (firstE_some (P := fun r => r ≠ 0) hp n 0 e hs)
 | none => rw [hs] at h; exact ⟨fun j hj => firstE_none n 0 hs j (Nat.zero_le _) (by omega),h⟩
theorem of_get {α : Type} {l : List α} {z : α} {P : α → Prop} (h : ∀ i,i < l.length → P (l.getD i z)) : ∀ x ∈ l,P x := by
 intro x hx
 obtain ⟨i,hi,rfl⟩ := List.mem_iff_getElem.1 hx
 have := h i hi
 rwa [List.getD_eq_getElem?_getD,List.getElem?_eq_getElem hi] at this
theorem path_len {s : ByteArray} (h : isPathS s = true) : 1 ≤ s.size ∧ s.size ≤ 200 := by
 unfold isPathS at h
 simp only [Bool.and_eq_true,decide_eq_true_eq] at h
 exact ⟨h.1,h.2.1⟩
theorem outs_right {l : List ByteArray} (h : outsS l = 0) : l.length ≤ 100 ∧ ∀ p ∈ l,isPathS p = true := by
 unfold outsS at h
 cases h0 : decide (l.length = 0) with
 | true => rw [h0] at h; cases h
 | false =>
  rw [h0,cond_false] at h
  cases h1 : decide (l.length > 100) with
  | true => rw [h1] at h; cases h
  | false =>
   rw [h1,cond_false] at h
   have a1 := of_decide_eq_false h1
   refine ⟨by omega,of_get (z := bs []) fun i hi => ?_⟩
   have hs : ∀ j r,outS l j = some r → r ≠ 0 := fun j r hj => by
    unfold outS at hj
    cases hb1 : isPathS (l.getD j (bs [])) with
    | false => rw [hb1] at hj; cases hj; decide
    | true =>
     rw [hb1] at hj
     cases hb3 : (decide (0 < j) && (strLt (l.getD j (bs [])) (l.getD (j - 1) (bs [])) || strEq (l.getD j (bs [])) (l.getD (j - 1) (bs [])))) with
     | true => rw [hb3] at hj; cases hj; decide
     | false => rw [hb3] at hj; cases hj
   have h3 := (firstE_zero hs h).1 i hi
   unfold outS at h3
   cases hb1 : isPathS (l.getD i (bs [])) with
   | false => rw [hb1] at h3; cases h3
   | true => rfl
structure ActRight (a : Act) : Prop where
 tool : isDigestS a.tool = true
 cmds : a.cmds.length ≤ 50 ∧ 1 ≤ a.cmds.length
 cmd : ∀ c ∈ a.cmds,cmdS c = 0
 vars : varsS a.vars = 0
 outs : outsS a.outs = 0
 needs : varsS a.needs = 0
 time : 1 ≤ a.time ∧ a.time ≤ 100000
theorem act_right {a : Act} (h : actS a = 0) : ActRight a := by
 unfold actS at h
 cases h1 : isDigestS a.tool with
 | false => rw [h1] at h; cases h
 | true =>
  rw [h1,cond_true] at h
  cases h2 : decide (a.cmds.length = 0) with
  | true => rw [h2] at h; cases h
  | false =>
   rw [h2,cond_false] at h
   cases h3 : decide (a.cmds.length > 50) with
   | true => rw [h3] at h; cases h
   | false =>
    rw [h3,cond_false] at h
    have hs : ∀ j r,cmdAt a.cmds j = some r → r ≠ 0 := fun j r hj => by
     unfold cmdAt at hj
     cases hb : cmdS (a.cmds.getD j []) == 0 with
     | true => rw [hb] at hj; cases hj
     | false => rw [hb] at hj; cases hj; exact fun e => by rw [e] at hb; cases hb
    obtain ⟨h4,h5⟩ := firstE_zero hs h
    have a2 := of_decide_eq_false h2
    have a3 := of_decide_eq_false h3
    have hc : ∀ c ∈ a.cmds,cmdS c = 0 := of_get (z := []) fun i hi => by
     have := h4 i hi
     unfold cmdAt at this
     cases hb : cmdS (a.cmds.getD i []) == 0 with
     | true => exact eq_of_beq hb
     | false => rw [hb] at this; cases this
    cases h6 : varsS a.vars == 0 with
    | false => rw [h6,cond_false] at h5; rw [h5] at h6; cases h6
    | true =>
     rw [h6,cond_true] at h5
     cases h7 : outsS a.outs == 0 with
     | false => rw [h7,cond_false] at h5; rw [h5] at h7; cases h7
     | true =>
      rw [h7,cond_true] at h5
      cases h8 : varsS a.needs == 0 with
      | false => rw [h8,cond_false] at h5; rw [h5] at h8; cases h8
      | true =>
       rw [h8,cond_true] at h5
       cases h9 : decide (1 ≤ a.time) && decide (a.time ≤ 100000) with
       | false => rw [h9] at h5; cases h5
       | true =>
        simp only [Bool.and_eq_true,decide_eq_true_eq] at h9
        exact ⟨h1,⟨by omega,by omega⟩,hc,eq_of_beq h6,eq_of_beq h7,eq_of_beq h8,h9⟩
end Go.Lm
set_option maxRecDepth 100000
namespace Go.Lm
section
variable {R : Type}
structure ActFit (a : Act) : Prop where
 cmds : a.cmds.length * 24 ≤ 140737488351232
 cmd : ∀ c ∈ a.cmds,c.length * 16 ≤ 140737488351232
 vars : a.vars.length * 32 ≤ 140737488351232
 outs : a.outs.length * 16 ≤ 140737488351232
 needs : a.needs.length * 32 ≤ 140737488351232
theorem cloneL5 {n : Nat} {xs : List LV} (h : xs.length * n ≤ 140737488351232) (hn : 1 ≤ n) : cloneF n (xs,()) = some (xs,()) := by
 have := Nat.mul_le_mul_left xs.length hn
 exact cloneL (by omega) (by omega)
theorem clone_str (k : Nat) (l : List LV) (h : l.length * 16 ≤ 140737488351232) (S : List LV) (K : List LV × Unit → List LV → Option R) : G.slices_Clone_s_string_string_c.fn k (l,()) S K = K (l,()) S := by
 unfold G.slices_Clone_s_string_string_c.fn handF
 rw [cloneL5 h (by decide)]
theorem clone_var (k : Nat) (l : List LV) (h : l.length * 32 ≤ 140737488351232) (S : List LV) (K : List LV × Unit → List LV → Option R) : G.slices_Clone_s_api_Var_api_Var_c.fn k (l,()) S K = K (l,()) S := by
 unfold G.slices_Clone_s_api_Var_api_Var_c.fn handF
 rw [cloneL5 h (by decide)]
theorem ref_CopyAction {k : Nat} (hk : Many k) (a : Act) (ft : ActFit a) (S : List LV) (K : ActT × Unit → List LV → Option R) : G.smithyardref5_CopyAction.fn k (a.tup,()) S K = K (a.tup,()) S := by
 have hk' := hk
 unfold Many at hk'
 have h1 := ft.cmds
 have h2 := ft.vars
 have h3 := ft.outs
 have h4 := ft.needs
 unfold G.smithyardref5_CopyAction.fn
 refine Eq.trans (rounds_scan0 (fun i => (a.tup,zT,(a.cmds.take i).map cmdL,(i : Int),())) S a.cmds.length k (fun _ => none) (K (a.tup,()) S) (fun rec i hi => ?_) (fun rec => ?_) (by omega)) (scan_none _ _ (fun _ _ _ => rfl))
 ·unfold G.smithyardref5_CopyAction.b0 Act.tup
  dsimp only
  have hi2 : i < (a.cmds.map cmdL).length := by rw [List.length_map]; exact hi
  have hc := ft.cmd _ (mem_get (z := []) hi)
  have hlt : ((a.cmds.take i).map cmdL).length = i := by rw [List.length_map,List.length_take]; omega
  have e : ((a.cmds.take i).map cmdL) ++ [.sl 1 ((a.cmds.getD i []).map .str)] = (a.cmds.take (i + 1)).map cmdL := by
   rw [List.take_succ_eq_append_getElem hi,List.map_append,List.getD_eq_getElem?_getD,List.getElem?_eq_getElem hi]; rfl
  rw [List.length_map,lt_nat,ifB_pos hi,idxL_nat hi2,cmd_get _ _ hi,cmdL_at,clone_str k _ (by rw [List.length_map]; exact hc)]
  dsimp only
  rw [app_le (by rw [hlt]; simp only [List.length_cons,List.length_nil]; omega) (by rw [hlt]; simp only [List.length_cons,List.length_nil]; omega),e,wrap_succ (by omega)]
 ·unfold G.smithyardref5_CopyAction.b0 Act.tup
  dsimp only
  rw [List.length_map,lt_nat,ifB_neg (Nat.lt_irrefl _),clone_var k _ (by rw [List.length_map]; exact h2)]
  dsimp only
  rw [clone_var k _ (by rw [List.length_map]; exact h4)]
  dsimp only
  rw [clone_str k _ (by rw [List.length_map]; exact h3),List.take_of_length_le (Nat.le_refl _)]
theorem fit_len {a : Act} (ft : ActFit a) : ActLen a 140737488355328 := ⟨by have := ft.cmds; omega,by have := ft.vars; omega,by have := ft.outs; omega,by have := ft.needs; omega⟩
end
end Go.Lm
set_option maxRecDepth 100000
namespace Go.Lm
section
variable {R : Type}
theorem quiR_same (S : List LV) (K : List LV → Option R) : quiR S S K = K S := by
 unfold quiR
 rw [if_pos rfl]
abbrev memD : ByteArray := bs [48,49,50,51,52,53,54,55,56,57,97,98,99,100,101,102]
abbrev mem0 : LV := .agg [.str (bs [97]),.str memD,.nilsl,.int .i64 0,.str (bs []),.nilsl,.nilsl,.int .i64 0]
abbrev mem1 : LV := .agg [.str (bs [97]),.str memD,.sl 3 [],.int .i64 0,.str (bs []),.sl 3 [],.sl 3 [],.int .i64 0]
theorem idx_one (v : LV) (K : LV → Option R) : idxL [v] 0 K = K v := rfl
theorem mem_mat (K : List LV → Option R) : mat 8 mem0 K = K [.str (bs [97]),.str memD,.nilsl,.int .i64 0,.str (bs []),.nilsl,.nilsl,.int .i64 0] := rfl
theorem checkMem_nil {k : Nat} (hk : Many k) (S : List LV) (K : Int × Unit → List LV → Option R) : G.steps_CheckMemory.fn k ([],()) S K = K (0,()) S := by
 unfold Many at hk
 obtain ⟨m,rfl⟩ : ∃ m,k = m + 1 := ⟨k - 1,by omega⟩
 rfl
theorem looks_nil {k : Nat} (hk : Many k) (S : List LV) (K : Bool × Unit → List LV → Option R) : G.slices_Equal_s_api_Look_api_Look.fn k ([],[],()) S K = K (true,()) S := by
 unfold Many at hk
 obtain ⟨m,rfl⟩ : ∃ m,k = m + 1 := ⟨k - 1,by omega⟩
 rfl
theorem mem_b0 {k : Nat} (hk : Many k) (S : List LV) (J0 : Unit → List LV → Option R) (Jret : Int × Unit → List LV → Option R) (rec : List LV × List LV × Int × Int × Unit → List LV → Option R) :
  G.steps_CheckMemory.b0 k J0 Jret rec ([mem0],[mem0],1,0,()) S = rec ([mem0],[mem0],1,1,()) S := by
 have h1 : isPathS (bs [97]) = true := by decide +kernel
 have h2 : isDigestS memD = true := by decide +kernel
 have h3 : checkLooksS [] = 0 := by decide +kernel
 have h4 : checkResS ⟨0,bs [],[],[],0⟩ = 0 := by decide +kernel
 have e1 : ∀ (K : Bool × Unit → List LV → Option R),G.blob_IsPath.fn k (bs [97],()) S K = K (true,()) S := fun K => (prog_IsPath hk (bs [97]) S K).trans (by rw [h1])
 have e2 : ∀ (K : Bool × Unit → List LV → Option R),G.blob_IsDigest.fn k (memD,()) S K = K (true,()) S := fun K => (prog_IsDigest memD S K).trans (by rw [h2])
 have e3 : ∀ (K : Int × Unit → List LV → Option R),G.action_CheckLooks.fn k ([],()) S K = K (0,()) S := fun K => (prog_CheckLooks hk [] S K).trans (by rw [h3])
 have e4 : ∀ (K : Int × Unit → List LV → Option R),G.action_CheckResult.fn k ((0,bs [],[],[],0,()),()) S K = K (0,()) S := fun K => (prog_CheckResult hk ⟨0,bs [],[],[],0⟩ ⟨by decide +kernel,⟨by simp,by simp,by simp⟩,by simp⟩ S K).trans (by rw [h4])
 unfold G.steps_CheckMemory.b0
 dsimp only
 rw [ifB_pos (by decide),idx_one,mem_mat]
 simp only [List.getD_cons_zero,List.getD_cons_succ,asStr_str,asInt_int,asSl_nil]
 rw [e1,Bool.not_true,ifB_false,e2,Bool.not_true,ifB_false,e3]
 dsimp only
 rw [show ((0 : Int) != 0) = false from rfl,ifB_false,e4]
 unfold G.steps_CheckMemory.q0 G.steps_CheckMemory.q1 G.steps_CheckMemory.q2 G.steps_CheckMemory.q3
 dsimp only
 rw [show ((0 : Int) != 0) = false from rfl,ifB_false,ifB_false,looks_nil hk]
 dsimp only
 rw [Bool.not_true,ifB_false,ifB_neg (by decide)]
 rfl
theorem checkMem_one {k : Nat} (hk : Many k) (S : List LV) (K : Int × Unit → List LV → Option R) : G.steps_CheckMemory.fn k ([mem0],()) S K = K (0,()) S := by
 have hk' := hk
 unfold Many at hk'
 obtain ⟨m,hm⟩ : ∃ m,k = m + 2 := ⟨k - 2,by omega⟩
 unfold G.steps_CheckMemory.fn
 dsimp only
 rw [ifB_neg (by decide)]
 conv => lhs; arg 2; rw [hm]
 rw [rounds_succ]
 refine (mem_b0 hk S _ _ _).trans ?_
 rw [rounds_succ]
 unfold G.steps_CheckMemory.b0
 dsimp only
 rw [ifB_neg (by decide)]
theorem clone_look_nil (k : Nat) (S : List LV) (K : List LV × Unit → List LV → Option R) : G.slices_Clone_s_api_Look_api_Look_c.fn k ([],()) S K = K ([],()) S := rfl
theorem appO_osl {e z b n id : Nat} {S xs ys : List LV} {K : LV → List LV → Option R} (h : S.getD id .any = .obj e xs ∨ S.getD id .any = .vec e xs) (hz : 0 < z) (hn : n * z ≤ xs.length) (hf : (n + ys.length) * b ≤ 140737488355328) (hm : n + ys.length ≤ 9223372036854775807) :
  appO e z b S (.osl id 0 z n) ys K = K (.osl S.length 0 z (n + ys.length)) (S.set id .any ++ [.vec e (xs.take (n * z) ++ flatC z ys)]) := by
 unfold appO cellsAt
 have h1 : Nat.blt 0 z = true := Nat.ble_eq_true_of_le hz
 have h2 : Nat.ble (n * z) xs.length = true := Nat.ble_eq_true_of_le hn
 have h3 : fitsB n ys.length b = true := decide_eq_true ⟨hf,hm⟩
 dsimp only
 rcases h with h | h <;> rw [h] <;> dsimp only <;> rw [Nat.beq_refl,Nat.beq_refl,Nat.beq_refl,h1,h2,h3] <;> rfl
theorem appO_nil {e z b : Nat} {S ys : List LV} {K : LV → List LV → Option R} (hz : 0 < z) (hy : 0 < ys.length) (hf : ys.length * b ≤ 140737488355328) (hm : ys.length ≤ 9223372036854775807) :
  appO e z b S .nilsl ys K = K (.osl S.length 0 z ys.length) (S ++ [.vec e (flatC z ys)]) := by
 unfold appO
 have h1 : Nat.blt 0 z = true := Nat.ble_eq_true_of_le hz
 have h2 : Nat.blt 0 ys.length = true := Nat.ble_eq_true_of_le hy
 have h3 : fitsB 0 ys.length b = true := decide_eq_true ⟨by rw [Nat.zero_add]; exact hf,by rw [Nat.zero_add]; exact hm⟩
 dsimp only
 rw [h1,h2,h3]; rfl
theorem get_end (S : List LV) (a : LV) : (S ++ [a]).getD S.length .any = a := by simp [List.getD_eq_getElem?_getD]
theorem lenO_osl (i p z n : Nat) (K : Nat → Option R) : lenO (.osl i p z n) K = K n := rfl
theorem own_nsl {k : Nat} (hk : Many k) (S : List LV) : G.blob_Own.fn k (.nsl 3 [],()) S (fun r S => some (resE G.blob_Own.rs r,S)) = some (resE G.blob_Own.rs ([],()),S) := by
 unfold Many at hk
 obtain ⟨m,rfl⟩ : ∃ m,k = m + 1 := ⟨k - 1,by omega⟩
 unfold G.blob_Own.fn
 refine popK_at (rs := G.blob_Own.rs) (r := ([],())) (G := [.any,.any]) ?_ rfl
 unfold G.blob_Own.fn0 G.slices_Clone_s_api_File_api_File_obj.fn
 dsimp only
 simp only [dup,isNil,asSl,newObj,Nat.beq_refl,ifB_true,show (false == true) = false from rfl,ifB_false]
 rw [appO_osl (xs := []) (.inl (get_end _ _)) (by decide) (by simp) (by simp) (by simp)]
 simp only [dup,lenO_osl]
 rw [rounds_succ]
 unfold G.blob_Own.b0
 dsimp only
 rw [ifB_neg (by simp)]
 unfold frzO objAt
 simp [List.getD_eq_getElem?_getD,chunks,flatC]
 rfl
theorem own_nil {k : Nat} (hk : Many k) (S : List LV) : G.blob_Own.fn k (.nilsl,()) S (fun r S => some (resE G.blob_Own.rs r,S)) = some (resE G.blob_Own.rs ([],()),S) := by
 unfold Many at hk
 obtain ⟨m,rfl⟩ : ∃ m,k = m + 1 := ⟨k - 1,by omega⟩
 unfold G.blob_Own.fn
 exact popK_at (rs := G.blob_Own.rs) (r := ([],())) (G := []) (by rw [List.append_nil]; rfl) rfl
theorem own_files_nil {k : Nat} (hk : Many k) (S : List LV) (K : List LV × Unit → List LV → Option R) : G.blob_Own_n.fn k ([],()) S K = K ([],()) S :=
 nilK_at (own_nsl hk S) (fun _ => own_nil hk S)
theorem objAt_end (S : List LV) (t : Nat) (xs : List LV) (K : (List LV → LV) → List LV → Option R) : objAt (S ++ [.vec t xs]) S.length K = K (.vec t) xs := by
 unfold objAt
 rw [get_end]
theorem set_end (S : List LV) (a b : LV) : (S ++ [a]).set S.length b = S ++ [b] := by simp
abbrev memC : List LV := [.str (bs [97]),.str memD,.sl 3 [],.int .i64 0,.str (bs []),.sl 3 [],.sl 3 [],.int .i64 0]
abbrev memC0 : List LV := [.str (bs [97]),.str memD,.nilsl,.int .i64 0,.str (bs []),.nilsl,.nilsl,.int .i64 0]
abbrev memC2 : List LV := [.str (bs [97]),.str memD,.own 124 3 [],.int .i64 0,.str (bs []),.nilsl,.nilsl,.int .i64 0]
abbrev memC1 : List LV := [.str (bs [97]),.str memD,.own 124 3 [],.int .i64 0,.str (bs []),.sl 3 [],.sl 3 [],.int .i64 0]
theorem oslOr_osl (i p z n : Nat) (A : Nat → Nat → Nat → Nat → Option R) (B : Option R) : oslOr (.osl i p z n) A B = A i p z n := rfl
theorem own_b0 {k : Nat} (hk : Many k) (S : List LV) (J0 : LV × Unit → List LV → Option R) (rec : LV × Int × Int × Unit → List LV → Option R) :
  G.steps_own.b0 k J0 rec (.osl S.length 0 8 1,1,0,()) (S ++ [.vec 62 memC0]) = rec (.osl S.length 0 8 1,1,1,()) (S ++ [.vec 62 memC1]) := by
 unfold G.steps_own.b0
 simp only [dup,oslOr_osl]
 rw [ifB_pos (by decide)]
 simp only [Nat.beq_refl,ifB_true]
 have e : ∀ K : Nat → Option R,idxN 1 0 K = K 0 := fun K => rfl
 have e1 : ∀ K : List LV → Option R,ldSl 3 memC0 (0 + 0 * 8 + 2) K = K [] := fun K => rfl
 have e2 : Nat.ble (0 + 0 * 8 + 3 + 5) memC0.length = true := rfl
 have e3 : ∀ (K : List LV → Option R),stO memC0 2 [.own 124 3 []] K = K memC2 := fun K => rfl
 have e4 : ∀ (K : List LV → Option R),stO memC2 3 [.int .i64 0,.str (bs []),.sl 3 [],.sl 3 [],.int .i64 0] K = K memC1 := fun K => rfl
 have e5 : memC0.map dupL = memC0 := rfl
 have e6 : ∀ (K : (Int × ByteArray × List LV × List LV × Int × Unit) × Unit → List LV → Option R) (S : List LV),G.steps_ownResult.fn k ((0,bs [],[],[],0,()),()) S K = K ((0,bs [],[],[],0,()),()) S := fun K S => by
  unfold G.steps_ownResult.fn
  dsimp only
  rw [own_files_nil hk]
  rfl
 simp only [e,objAt_end,e1,clone_look_nil,quiR_same,e2,ifB_true,e5,List.getD_cons_zero,List.getD_cons_succ,asStr_str,asInt_int,asSl_nil,Nat.zero_mul,Nat.zero_add,Nat.reduceAdd]
 rw [e6]
 simp only [e3,quiR_same,setS_of,set_end,objAt_end,e4]
 rfl
theorem sort_one {k : Nat} (hk : Many k) (id : Nat) (S : List LV) (K : Unit → List LV → Option R) : G.slices_SortFunc_s_api_Memory_api_Memory_at_steps_Joined_1.fn k (.osl id 0 8 1,(),()) S K = K () S := by
 unfold Many at hk
 obtain ⟨m,hm⟩ : ∃ m,k = m + 1 := ⟨k - 1,by omega⟩
 unfold G.slices_SortFunc_s_api_Memory_api_Memory_at_steps_Joined_1.fn G.math_bits_Len.fn
 simp only [dup,lenO_osl]
 have e1 : ∀ (K : Int × Unit → List LV → Option R),G.math_bits_Len64.fn k (IntKind.wrap .u64 ((1 : Nat) : Int),()) S K = K (1,()) S := fun K => by kernel_rfl
 rw [e1]
 unfold G.slices_pdqsortCmpFunc_api_Memory_at_steps_Joined_1.fn
 conv => lhs; arg 2; rw [hm]
 rw [rounds_succ]
 unfold G.slices_pdqsortCmpFunc_api_Memory_at_steps_Joined_1.b0 G.slices_insertionSortCmpFunc_api_Memory_at_steps_Joined_1.fn
 dsimp only
 rw [ifB_pos (by decide)]
 conv => lhs; arg 2; rw [hm]
 rw [rounds_succ]
 unfold G.slices_insertionSortCmpFunc_api_Memory_at_steps_Joined_1.b0
 dsimp only
 rw [ifB_neg (by decide)]
theorem own_one {k : Nat} (hk : Many k) (S : List LV) (K : LV × Unit → List LV → Option R) : G.steps_own.fn k (.sl 8 [mem0],()) S K = K (.osl (S.length + 1) 0 8 1,()) (S ++ [.any] ++ [.vec 62 memC1]) := by
 have hk' := hk
 unfold Many at hk'
 obtain ⟨m,hm⟩ : ∃ m,k = m + 2 := ⟨k - 2,by omega⟩
 unfold G.steps_own.fn G.slices_Clone_s_api_Memory_api_Memory_obj.fn
 simp only [dup,isNil,asSl_sl,newObj,ifB_false,show (false == true) = false from rfl]
 rw [appO_osl (xs := []) (.inl (get_end _ _)) (by decide) (by simp) (by simp) (by simp)]
 simp only [dup,lenO_osl,set_end]
 have e : List.take (0 * 8) ([] : List LV) ++ flatC 8 [mem0] = memC0 := rfl
 rw [e]
 conv => lhs; arg 2; rw [hm]
 rw [rounds_succ,show (S ++ [LV.obj 62 []]).length = (S ++ [LV.any]).length by simp]
 refine (own_b0 hk (S ++ [.any]) _ _).trans ?_
 rw [rounds_succ]
 unfold G.steps_own.b0
 dsimp only
 rw [ifB_neg (by decide)]
 simp
theorem own_none {k : Nat} (hk : Many k) (S : List LV) (K : LV × Unit → List LV → Option R) : G.steps_own.fn k (.nilsl,()) S K = K (.nilsl,()) S := by
 unfold Many at hk
 obtain ⟨m,rfl⟩ : ∃ m,k = m + 1 := ⟨k - 1,by omega⟩
 rfl
theorem joined_b1 (k : Nat) (i : Nat) (S : List LV) (hm : S.getD i .any = .mp .str []) (J : LV × Unit → List LV → Option R) (rec : Nat × LV × LV × Int × Int × Unit → List LV → Option R) :
  G.steps_Joined.b1 k J rec (i,.nilsl,.osl S.length 0 8 1,1,0,()) (S ++ [.vec 62 memC1]) = rec (i,.osl (S.length + 1) 0 8 1,.osl S.length 0 8 1,1,1,()) (S ++ [.vec 62 memC1] ++ [.vec 62 memC]) := by
 unfold G.steps_Joined.b1
 simp only [oslOr_osl]
 rw [ifB_pos (by decide)]
 simp only [Nat.beq_refl,ifB_true]
 have e : ∀ K : Nat → Option R,idxN 1 0 K = K 0 := fun K => rfl
 have e2 : Nat.ble (0 + 0 * 8 + 8) memC1.length = true := rfl
 have e5 : memC1.map dupL = memC := rfl
 have hlt : i < S.length := by
  rcases Nat.lt_or_ge i S.length with h1 | h1
  ·exact h1
  ·rw [List.getD_eq_getElem?_getD,List.getElem?_eq_none h1] at hm; cases hm
 have e6 : ∀ K : List (LV × LV) → Option R,mpAt (S ++ [.vec 62 memC1]) i .str K = K [] := fun K => by
  unfold mpAt
  rw [show (S ++ [LV.vec 62 memC1]).getD i .any = .mp .str [] by rw [← hm]; simp [List.getD_eq_getElem?_getD,List.getElem?_append_left hlt]]
  rfl
 simp only [e,objAt_end,e2,ifB_true,e5,List.getD_cons_zero,List.getD_cons_succ,asStr_str,asInt_int,asSl_sl,Nat.zero_mul,Nat.zero_add,Nat.reduceAdd,e6]
 have e7 : ∀ K : Bool → Option R,asBool ((mapGet [] (.str (bs [97]))).getD (.bool false)) K = K false := fun K => rfl
 rw [e7,Bool.not_false,ifB_true,appO_nil (by decide) (by simp) (by simp) (by simp)]
 have e8 : flatC 8 [.agg memC] = memC := rfl
 rw [e8]
 simp
 rfl
theorem joined_one0 {k : Nat} (hk : Many k) (S : List LV) (K : List LV × Int × Unit → List LV → Option R) : G.steps_Joined.fn0 k (.nilsl,.own 62 8 [mem0],()) S K = K ([mem1],0,()) (S ++ [.mp .str [],.any,.vec 62 memC1,.any]) := by
 have hk' := hk
 unfold Many at hk'
 obtain ⟨m,hm⟩ : ∃ m,k = m + 2 := ⟨k - 2,by omega⟩
 unfold G.steps_Joined.fn0
 simp only [asSl_nil,asSl_own]
 rw [checkMem_nil hk]
 dsimp only
 rw [show ((0 : Int) != 0) = false from rfl,ifB_false,checkMem_one hk]
 dsimp only
 rw [show ((0 : Int) != 0) = false from rfl,ifB_false]
 unfold newObj
 show rounds _ k _ (S ++ [.mp .str []]) = _
 conv => lhs; arg 2; rw [hm]
 rw [rounds_succ]
 unfold G.steps_Joined.b0
 dsimp only
 rw [ifB_neg (by decide)]
 simp only [dup]
 rw [own_none hk]
 dsimp only
 rw [own_one hk]
 simp only [dup,lenO_osl]
 conv => lhs; arg 2; rw [hm]
 rw [rounds_succ]
 have hl : S.length + 1 + 1 = (S ++ [LV.mp .str []] ++ [LV.any]).length := by simp
 have hl1 : (S ++ [LV.mp .str []]).length + 1 = (S ++ [LV.mp .str []] ++ [LV.any]).length := by simp
 rw [hl1]
 refine (joined_b1 k S.length (S ++ [.mp .str []] ++ [.any]) (by simp [List.getD_eq_getElem?_getD]) _ _).trans ?_
 rw [rounds_succ]
 unfold G.steps_Joined.b1
 dsimp only
 rw [ifB_neg (by decide)]
 simp only [dup,lenO_osl]
 rw [ifB_neg (by decide),sort_one hk]
 unfold frzO
 dsimp only
 rw [show (S ++ [LV.mp .str []] ++ [LV.any]).length + 1 = (S ++ [LV.mp .str []] ++ [LV.any] ++ [LV.vec 62 memC1]).length by simp,objAt_end]
 have e : (Nat.beq 8 8 && (Nat.beq 0 0 && Nat.beq (1 * 8) memC.length && Nat.blt 0 8 && Nat.ble 1 9223372036854775807)) = true := rfl
 have e1 : chunks 8 1 memC = [mem1] := rfl
 rw [e,ifB_true,e1,set_end]
 simp
theorem joined_one {k : Nat} (hk : Many k) (S : List LV) (K : List LV × Int × Unit → List LV → Option R) : G.steps_Joined.fn k (.nilsl,.own 62 8 [mem0],()) S K = K ([mem1],0,()) S := by
 unfold G.steps_Joined.fn
 exact popK_at (rs := G.steps_Joined.rs) (r := (([mem1],(0 : Int),()) : List LV × Int × Unit)) (joined_one0 hk S _) rfl
theorem awake_true {k : Nat} (hk : Many k) (S : List LV) (K : Bool × Unit → List LV → Option R) : G.smithyardlaw6_awake.fn k () S K = K (true,()) S := by
 unfold G.smithyardlaw6_awake.fn
 rw [joined_one hk]
 dsimp only
 rw [show ((0 : Int) == 0) = true from rfl,ifB_true,show ((([mem1] : List LV).length : Int) == 1) = true from rfl,ifB_true,idx_one]
 have e : ∀ K : ByteArray → Option R,asStr (leaf mem1 0) K = K (bs [97]) := fun K => rfl
 rw [e,show strEq (bs [97]) (bs [97]) = true from strEq_refl _]
end
end Go.Lm
set_option maxRecDepth 100000
namespace Go.Lm
section
variable {R : Type}
structure Rule where
 name : ByteArray
 act : Act
 ins : List ByteArray
abbrev RuleT := ByteArray × ByteArray × List LV × List LV × List LV × List LV × Int × List LV × Unit
abbrev Rule.tup (r : Rule) : RuleT := (r.name,r.act.tool,r.act.cmds.map cmdL,r.act.vars.map varL,r.act.outs.map .str,r.act.needs.map varL,r.act.time,r.ins.map .str,())
def Rule.cells (r : Rule) : List LV := [.str r.name,.str r.act.tool,.sl 1 (r.act.cmds.map cmdL),.sl 2 (r.act.vars.map varL),.sl 1 (r.act.outs.map .str),.sl 2 (r.act.needs.map varL),.int .i64 r.act.time,.sl 1 (r.ins.map .str)]
def Rule.lv (r : Rule) : LV := .agg r.cells
def Rule.zero : Rule := ⟨bs [],⟨bs [],[],[],[],[],0⟩,[]⟩
structure RuleOk (r : Rule) : Prop where
 act : ActOk r.act
 ins : r.ins.length ≤ 140737488355328
theorem rule_get (l : List Rule) (i : Nat) (h : i < l.length) : (l.map Rule.lv).getD i .any = (l.getD i .zero).lv := by simp [List.getD_eq_getElem?_getD,h]
theorem rule_mem (l : List Rule) (i : Nat) (h : i < l.length) : l.getD i .zero ∈ l := by
 rw [List.getD_eq_getElem?_getD,List.getElem?_eq_getElem h]; exact List.getElem_mem h
theorem Rule.mat (r : Rule) (K : List LV → Option R) : Lm.mat 8 r.lv K = K r.cells := rfl
theorem rule_name (r : Rule) (K : ByteArray → Option R) : asStr (leaf r.lv 0) K = K r.name := rfl
theorem rule_outs (r : Rule) (K : List LV → Option R) : asSl 1 (leaf r.lv 4) K = K (r.act.outs.map .str) := asSl_sl 1 _ K
theorem rule_ins (r : Rule) (K : List LV → Option R) : asSl 1 (leaf r.lv 7) K = K (r.ins.map .str) := asSl_sl 1 _ K
theorem rule_cells (r : Rule) (K : ByteArray → ByteArray → List LV → List LV → List LV → List LV → Int → List LV → Option R) :
  (asStr (r.cells.getD 0 .any) fun a => asStr (r.cells.getD 1 .any) fun b => asSl 1 (r.cells.getD 2 .any) fun c => asSl 2 (r.cells.getD 3 .any) fun d => asSl 1 (r.cells.getD 4 .any) fun e => asSl 2 (r.cells.getD 5 .any) fun f => asInt .i64 (r.cells.getD 6 .any) fun g => asSl 1 (r.cells.getD 7 .any) fun h => K a b c d e f g h) =
   K r.name r.act.tool (r.act.cmds.map cmdL) (r.act.vars.map varL) (r.act.outs.map .str) (r.act.needs.map varL) r.act.time (r.ins.map .str) := by
 unfold Rule.cells
 simp only [List.getD_cons_zero,List.getD_cons_succ,asStr_str,asInt_int,asSl_sl]
def ruleS (r : Rule) : Int := cond (isPathS r.name) (cond (actS r.act == 0) (cond (decide (r.ins.length > 1000)) 2 ((firstE (outS r.ins) r.ins.length).getD 0)) (actS r.act)) 3
theorem prog_ins {k : Nat} (hk : Many k) (r : Rule) (hl : r.ins.length ≤ 1000) (S : List LV) (J0 : Unit → List LV → Option R) (Jret : Int × Unit → List LV → Option R) :
  rounds (G.steps_checkRule.b0 k J0 Jret) k (r.tup,r.ins.map .str,(r.ins.length : Int),(0 : Int),()) S = ((firstE (outS r.ins) r.ins.length).map fun n => Jret (n,()) S).getD (J0 () S) := by
 have hk' := hk
 unfold Many at hk'
 unfold firstE
 rw [← scan_firstE]
 refine rounds_scan0 (fun i => (r.tup,r.ins.map LV.str,(r.ins.length : Int),(i : Int),())) S r.ins.length k _ _ (fun rec i hi => ?_) (fun rec => ?_) (by omega)
 ·unfold G.steps_checkRule.b0
  dsimp only
  have hi2 : i < (r.ins.map LV.str).length := by simpa using hi
  rw [lt_nat,ifB_pos hi]
  simp only [idxL_nat hi2,map_str_get r.ins i hi,asLeaf_str,prog_IsPath hk,wrap_succ (show i < 9223372036854775807 by omega),out_prev r.ins i hi (by omega)]
  unfold outS
  generalize (decide (0 < i) && (strLt (r.ins.getD i (bs [])) (r.ins.getD (i - 1) (bs [])) || strEq (r.ins.getD i (bs [])) (r.ins.getD (i - 1) (bs [])))) = b2
  cases isPathS (r.ins.getD i (bs [])) <;> cases b2 <;> rfl
 ·unfold G.steps_checkRule.b0
  dsimp only
  rw [lt_nat,ifB_neg (Nat.lt_irrefl _)]
theorem ref_ins {k : Nat} (hk : Many k) (r : Rule) (hl : r.ins.length ≤ 1000) (S : List LV) (J0 : Unit → List LV → Option R) (Jret : Int × Unit → List LV → Option R) :
  rounds (G.smithyardref6_checkRule.b0 k J0 Jret) k (r.tup,(0 : Int),()) S = ((firstE (outS r.ins) r.ins.length).map fun n => Jret (n,()) S).getD (J0 () S) := by
 have hk' := hk
 unfold Many at hk'
 unfold firstE
 rw [← scan_firstE]
 refine rounds_scan0 (fun i => (r.tup,(i : Int),())) S r.ins.length k _ _ (fun rec i hi => ?_) (fun rec => ?_) (by omega)
 ·unfold G.smithyardref6_checkRule.b0 G.smithyardref6_checkRule.q0
  dsimp only
  have hi2 : i < (r.ins.map LV.str).length := by simpa using hi
  rw [List.length_map,lt_nat,ifB_pos hi]
  simp only [idxL_nat hi2,map_str_get r.ins i hi,asLeaf_str,ref_IsPath hk,wrap_succ (show i < 9223372036854775807 by omega),out_prev r.ins i hi (by omega)]
  unfold outS
  generalize (decide (0 < i) && (strLt (r.ins.getD i (bs [])) (r.ins.getD (i - 1) (bs [])) || strEq (r.ins.getD i (bs [])) (r.ins.getD (i - 1) (bs [])))) = b2
  cases isPathS (r.ins.getD i (bs [])) <;> cases b2 <;> rfl
 ·unfold G.smithyardref6_checkRule.b0
  dsimp only
  rw [List.length_map,lt_nat,ifB_neg (Nat.lt_irrefl _)]
theorem prog_checkRule {k : Nat} (hk : Many k) (r : Rule) (ok : RuleOk r) (S : List LV) (K : Int × Unit → List LV → Option R) : G.steps_checkRule.fn k (r.tup,()) S K = K (ruleS r,()) S := by
 unfold G.steps_checkRule.fn ruleS
 dsimp only
 rw [prog_IsPath hk]
 dsimp only
 cases isPathS r.name with
 | false => rfl
 | true =>
  rw [Bool.not_true,ifB_false]
  refine (prog_CheckAction hk r.act ok.act S _).trans ?_
  dsimp only [cond]
  rw [ne0]
  cases actS r.act == 0 with
  | false => rfl
  | true =>
   dsimp only [cond]
   rw [Bool.not_true,ifB_false,List.length_map,show decide ((r.ins.length : Int) > 1000) = decide (r.ins.length > 1000) from gt_nat r.ins.length 1000]
   by_cases h : r.ins.length > 1000
   ·rw [decide_eq_true h]; rfl
   ·rw [decide_eq_false h,ifB_false]
    refine (prog_ins hk r (by omega) S _ _).trans ?_
    cases firstE (outS r.ins) r.ins.length <;> rfl
theorem ref_checkRule {k : Nat} (hk : Many k) (r : Rule) (ok : RuleOk r) (S : List LV) (K : Int × Unit → List LV → Option R) : G.smithyardref6_checkRule.fn k (r.tup,()) S K = K (ruleS r,()) S := by
 unfold G.smithyardref6_checkRule.fn ruleS
 dsimp only
 rw [ref_IsPath hk]
 dsimp only
 cases isPathS r.name with
 | false => rfl
 | true =>
  rw [Bool.not_true,ifB_false]
  refine (ref_CheckAction hk r.act ok.act S _).trans ?_
  dsimp only [cond]
  rw [ne0]
  cases actS r.act == 0 with
  | false => rfl
  | true =>
   dsimp only [cond]
   rw [Bool.not_true,ifB_false,List.length_map,show decide ((r.ins.length : Int) > 1000) = decide (r.ins.length > 1000) from gt_nat r.ins.length 1000]
   by_cases h : r.ins.length > 1000
   ·rw [decide_eq_true h]; rfl
   ·rw [decide_eq_false h,ifB_false]
    refine (ref_ins hk r (by omega) S _ _).trans ?_
    cases firstE (outS r.ins) r.ins.length <;> rfl
end
end Go.Lm
set_option maxRecDepth 100000
namespace Go.Lm
section
variable {R : Type}
def Keeps (S S' : List LV) (M : List Nat) : Prop := S.length ≤ S'.length ∧ ∀ j,j < S.length → j ∉ M → S'.getD j .any = S.getD j .any
theorem Keeps.refl (S : List LV) (M : List Nat) : Keeps S S M := ⟨Nat.le_refl _,fun _ _ _ => rfl⟩
theorem Keeps.trans {S S1 S2 : List LV} {M : List Nat} (h : Keeps S S1 M) (h1 : Keeps S1 S2 M) : Keeps S S2 M :=
 ⟨Nat.le_trans h.1 h1.1,fun j hj hm => (h1.2 j (Nat.lt_of_lt_of_le hj h.1) hm).trans (h.2 j hj hm)⟩
theorem Keeps.weak {S S' : List LV} {M M' : List Nat} (h : Keeps S S' M) (hs : ∀ m,m ∈ M → m ∈ M' ∨ S.length ≤ m) : Keeps S S' M' :=
 ⟨h.1,fun j hj hm => h.2 j hj fun hc => by rcases hs j hc with h1 | h1; exact hm h1; omega⟩
theorem Keeps.set (S : List LV) (id : Nat) (v : LV) : Keeps S (S.set id v) [id] :=
 ⟨by simp,fun j _ hm => other_set (fun e => hm (by simp [e])) v⟩
theorem Keeps.app (S T : List LV) (M : List Nat) : Keeps S (S ++ T) M :=
 ⟨by simp,fun j hj _ => by simp only [List.getD_eq_getElem?_getD,List.getElem?_append_left hj]⟩
theorem Keeps.get {S S' : List LV} {M : List Nat} (h : Keeps S S' M) {id : Nat} {v : LV} (hv : S.getD id .any = v) (hn : v ≠ .any) (hm : id ∉ M) : S'.getD id .any = v := by
 rcases Nat.lt_or_ge id S.length with h1 | h1
 ·rw [h.2 id h1 hm,hv]
 ·rw [List.getD_eq_getElem?_getD,List.getElem?_eq_none h1] at hv; exact absurd hv.symm hn
theorem Keeps.grown {S S' : List LV} (h : Keeps S S' []) : ∃ G,S' = S ++ G := by
 refine ⟨S'.drop S.length,?_⟩
 apply List.ext_getElem?
 intro j
 rcases Nat.lt_or_ge j S.length with h1 | h1
 ·rw [List.getElem?_append_left h1]
  have := h.2 j h1 (by simp)
  simp only [List.getD_eq_getElem?_getD] at this
  rw [List.getElem?_eq_getElem h1,List.getElem?_eq_getElem (Nat.lt_of_lt_of_le h1 h.1)] at *
  simpa using this
 ·rw [List.getElem?_append_right h1,List.getElem?_drop,Nat.add_sub_cancel' h1]
theorem lt_get {S : List LV} {id : Nat} {v : LV} (hv : S.getD id .any = v) (hn : v ≠ .any) : id < S.length := by
 rcases Nat.lt_or_ge id S.length with h1 | h1
 ·exact h1
 ·rw [List.getD_eq_getElem?_getD,List.getElem?_eq_none h1] at hv; exact absurd hv.symm hn
theorem get_app {S : List LV} {id : Nat} {v : LV} (T : List LV) (hv : S.getD id .any = v) (hn : v ≠ .any) : (S ++ T).getD id .any = v := (Keeps.app S T []).get hv hn (by simp)
theorem get_set {S : List LV} {id : Nat} {v : LV} (hl : id < S.length) : (S.set id v).getD id .any = v := by
 simp [List.getD_eq_getElem?_getD,hl]
def scanE {ε : Type} (e : Nat → Option ε) (d i : Nat) : Option ε := scan (fun j => (e j).map some) none d i
theorem scanE_zero {ε : Type} (e : Nat → Option ε) (i : Nat) : scanE e 0 i = none := rfl
theorem scanE_some {ε : Type} {e : Nat → Option ε} {d i : Nat} {r : ε} (h : e i = some r) : scanE e (d + 1) i = some r := by simp [scanE,scan,h]
theorem scanE_none {ε : Type} {e : Nat → Option ε} {d i : Nat} (h : e i = none) : scanE e (d + 1) i = scanE e d (i + 1) := by simp [scanE,scan,h]
theorem loop_inv {κ α ε : Type} {b : κ → (α → List LV → Option R) → α → List LV → Option R} {x : Nat → α} {n : Nat} {Inv : Nat → List LV → Prop} {PE : ε → List LV → Prop} {out : κ → Option ε → List LV → Option R} {e : Nat → Option ε}
  (hb : ∀ i S,i < n → Inv i S → (∀ r,e i = some r → ∃ S',PE r S' ∧ ∀ q rec,b q rec (x i) S = out q (some r) S') ∧ (e i = none → ∃ S',Inv (i + 1) S' ∧ ∀ q rec,b q rec (x i) S = rec (x (i + 1)) S'))
  (he : ∀ q rec S,Inv n S → b q rec (x n) S = out q none S) :
  ∀ (d i fuel : Nat) (S : List LV),i + d = n → d < fuel → Inv i S → ∃ S',(∀ r,scanE e d i = some r → PE r S') ∧ (scanE e d i = none → Inv n S') ∧ ∀ q,rounds (b q) fuel (x i) S = out q (scanE e d i) S'
 | 0,i,fuel,S,hi,hf,hI => by
  obtain ⟨m,rfl⟩ : ∃ m,fuel = m + 1 := ⟨fuel - 1,by omega⟩
  have : i = n := by omega
  subst this
  exact ⟨S,fun r h => (by simp [scanE_zero] at h),fun _ => hI,fun q => by rw [rounds_succ,he _ _ _ hI,scanE_zero]⟩
 | d + 1,i,fuel,S,hi,hf,hI => by
  obtain ⟨m,rfl⟩ : ∃ m,fuel = m + 1 := ⟨fuel - 1,by omega⟩
  obtain ⟨h1,h2⟩ := hb i S (by omega) hI
  cases hE : e i with
  | some r =>
   obtain ⟨S',hp,hs⟩ := h1 r hE
   exact ⟨S',fun r' h => (by rw [scanE_some hE] at h; cases h; exact hp),fun h => (by rw [scanE_some hE] at h; cases h),fun q => by rw [rounds_succ,hs,scanE_some hE]⟩
  | none =>
   obtain ⟨S1,hI1,hs⟩ := h2 hE
   obtain ⟨S',a,b',c⟩ := loop_inv hb he d (i + 1) m S1 (by omega) (by omega) hI1
   exact ⟨S',fun r h => a r (by rwa [scanE_none hE] at h),fun h => b' (by rwa [scanE_none hE] at h),fun q => by rw [rounds_succ,hs,c,scanE_none hE]⟩
theorem loop_all {κ α : Type} {b : κ → (α → List LV → Option R) → α → List LV → Option R} {x : Nat → α} {n : Nat} {Inv : Nat → List LV → Prop} {out : κ → List LV → Option R}
  (hb : ∀ i S,i < n → Inv i S → ∃ S',Inv (i + 1) S' ∧ ∀ q rec,b q rec (x i) S = rec (x (i + 1)) S') (he : ∀ q rec S,Inv n S → b q rec (x n) S = out q S)
  (fuel : Nat) (hf : n < fuel) (S : List LV) (hI : Inv 0 S) : ∃ S',Inv n S' ∧ ∀ q,rounds (b q) fuel (x 0) S = out q S' := by
 obtain ⟨S',_,h2,h3⟩ := loop_inv (ε := Empty) (e := fun _ => none) (PE := fun r _ => r.elim) (out := fun q _ S => out q S) (b := b) (x := x) (Inv := Inv) (fun i S hi hI => ⟨fun r => r.elim,fun _ => hb i S hi hI⟩) he n 0 fuel S (by omega) hf hI
 have hn : ∀ d i,scanE (fun _ => (none : Option Empty)) d i = none := fun d => by
  induction d with
  | zero => exact fun i => rfl
  | succ d ih => exact fun i => (scanE_none rfl).trans (ih (i + 1))
 exact ⟨S',h2 (hn _ _),h3⟩
def StrKeys (m : List (LV × LV)) : Prop := ∀ e,e ∈ m → ∃ s,e.1 = LV.str s
theorem StrKeys.put {m : List (LV × LV)} (hm : StrKeys m) (a : ByteArray) (v : LV) : StrKeys (mapPut m (.str a) v) := by
 induction m with
 | nil => intro e he; simp [mapPut] at he; exact ⟨a,by rw [he]⟩
 | cons x m ih =>
  intro e he
  obtain ⟨k,y⟩ := x
  simp only [mapPut] at he
  split at he
  ·rcases List.mem_cons.1 he with rfl | he
   ·exact hm (k,y) (by simp)
   ·exact hm e (by simp [he])
  ·rcases List.mem_cons.1 he with rfl | he
   ·exact hm (k,y) (by simp)
   ·exact ih (fun e he => hm e (by simp [he])) e he
structure IsMap (S : List LV) (id : Nat) (m : List (LV × LV)) (f : ByteArray → Option LV) : Prop where
 at_ : S.getD id .any = .mp .str m
 keys : StrKeys m
 get : ∀ p,mapGet m (.str p) = f p
theorem IsMap.lt {S : List LV} {id : Nat} {m : List (LV × LV)} {f : ByteArray → Option LV} (h : IsMap S id m f) : id < S.length := lt_get h.at_ (by simp)
theorem IsMap.mp {S : List LV} {id : Nat} {m : List (LV × LV)} {f : ByteArray → Option LV} (h : IsMap S id m f) (K : List (LV × LV) → Option R) : mpAt S id .str K = K m := by
 unfold mpAt
 rw [h.at_]; rfl
theorem IsMap.keeps {S S' : List LV} {id : Nat} {m : List (LV × LV)} {f : ByteArray → Option LV} {M : List Nat} (h : IsMap S id m f) (hk : Keeps S S' M) (hm : id ∉ M) : IsMap S' id m f := ⟨hk.get h.at_ (by simp) hm,h.keys,h.get⟩
theorem IsMap.put {S : List LV} {id : Nat} {m : List (LV × LV)} {f : ByteArray → Option LV} (h : IsMap S id m f) (a : ByteArray) (v : LV) : IsMap (S.set id (.mp .str (mapPut m (.str a) v))) id (mapPut m (.str a) v) (fun p => cond (decide (a = p)) (some v) (f p)) :=
 ⟨get_set h.lt,h.keys.put a v,fun p => by rw [mapGet_put _ _ _ _ h.keys,h.get]; cases decide (a = p) <;> rfl⟩
def IsSet (S : List LV) (id : Nat) (P : ByteArray → Bool) : Prop := ∃ m,IsMap S id m fun p => cond (P p) (some (.bool true)) none
theorem IsSet.keeps {S S' : List LV} {id : Nat} {P : ByteArray → Bool} {M : List Nat} (h : IsSet S id P) (hk : Keeps S S' M) (hm : id ∉ M) : IsSet S' id P := by
 obtain ⟨m,h⟩ := h; exact ⟨m,h.keeps hk hm⟩
theorem IsSet.lt {S : List LV} {id : Nat} {P : ByteArray → Bool} (h : IsSet S id P) : id < S.length := by obtain ⟨m,h⟩ := h; exact h.lt
theorem IsSet.congr {S : List LV} {id : Nat} {P P' : ByteArray → Bool} (h : IsSet S id P) (hp : ∀ p,P p = P' p) : IsSet S id P' := by
 have : P = P' := funext hp
 rw [← this]; exact h
theorem IsSet.empty (S : List LV) : IsSet (S ++ [.mp .str []]) S.length fun _ => false := ⟨[],get_end _ _,fun e he => by simp at he,fun p => rfl⟩
theorem IsSet.get {S : List LV} {id : Nat} {P : ByteArray → Bool} (h : IsSet S id P) (p : ByteArray) (K : Bool → Option R) : (mpAt S id .str fun m => asBool ((mapGet m (.str p)).getD (.bool false)) K) = K (P p) := by
 obtain ⟨m,h⟩ := h
 rw [h.mp,h.get]
 cases P p <;> rfl
theorem IsSet.put {S : List LV} {id : Nat} {P : ByteArray → Bool} (h : IsSet S id P) (a : ByteArray) : ∃ S',IsSet S' id (fun p => P p || decide (a = p)) ∧ Keeps S S' [id] ∧
  ∀ K : List LV → Option R,(mpAt S id .str fun m => setS (S.set id (.mp .str (mapPut m (.str a) (.bool true)))) K) = K S' := by
 obtain ⟨m,h⟩ := h
 refine ⟨_,⟨mapPut m (.str a) (.bool true),?_⟩,Keeps.set S id (.mp .str (mapPut m (.str a) (.bool true))),fun K => h.mp _⟩
 have := h.put a (.bool true)
 refine ⟨this.at_,this.keys,fun p => (this.get p).trans ?_⟩
 dsimp only
 cases decide (a = p) <;> cases P p <;> rfl
def aboveTo (p : ByteArray) (n : Nat) : List ByteArray := (List.range n).filterMap fun (j : Nat) => cond (bt p (j : Int) == 47) (some (p.extract 0 j)) none
def aboveS (p : ByteArray) : List ByteArray := aboveTo p p.size
theorem aboveTo_succ (p : ByteArray) (n : Nat) : aboveTo p (n + 1) = cond (bt p (n : Int) == 47) (aboveTo p n ++ [p.extract 0 n]) (aboveTo p n) := by
 unfold aboveTo
 rw [List.range_succ,List.filterMap_append]
 rw [List.filterMap_cons]
 cases bt p (n : Int) == 47 <;> simp
theorem aboveTo_len (p : ByteArray) (n : Nat) : (aboveTo p n).length ≤ n := by
 have := List.length_filterMap_le (fun j : Nat => cond (bt p (j : Int) == 47) (some (p.extract 0 j)) none) (List.range n)
 rw [List.length_range] at this
 exact this
theorem prog_above {k : Nat} (hk : Many k) (p : ByteArray) (hp : p.size ≤ 300) (S : List LV) (K : List LV × Unit → List LV → Option R) : G.steps_above.fn k (p,()) S K = K ((aboveS p).map .str,()) S := by
 unfold Many at hk
 unfold G.steps_above.fn
 have h0 : (aboveTo p 0).map LV.str = [] := rfl
 dsimp only
 rw [← h0]
 refine (rounds_scan0 (fun i => (p,(aboveTo p i).map LV.str,(p.size : Int),(i : Int),())) S p.size k (fun _ => none) (K ((aboveS p).map .str,()) S) (fun rec i hi => ?_) (fun rec => ?_) (by omega)).trans (scan_none _ _ (fun _ _ _ => rfl))
 ·unfold G.steps_above.b0
  dsimp only
  rw [lt_nat,ifB_pos hi,idxStr_nat hi,slStr_nat (by omega),wrap_succ (by omega),aboveTo_succ]
  have := aboveTo_len p i
  cases bt p i == 47 with
  | true => rw [ifB_true,app_one (by rw [List.length_map]; omega) (by rw [List.length_map]; omega)]; simp
  | false => rfl
 ·unfold G.steps_above.b0
  dsimp only
  rw [lt_nat,ifB_neg (Nat.lt_irrefl _)]; rfl
theorem bt_toL (p : ByteArray) (j : Nat) (h : j < p.size) : bt p (j : Int) = (((toL p).getD j 0).toNat : Int) := by
 unfold bt toL
 rw [dif_pos (by simpa using h)]
 have h2 : j < p.data.size := h
 have e : p[j] = p.data[j] := rfl
 simp [List.getD_eq_getElem?_getD,h2]
 rw [Array.getElem?_eq_getElem h2]
 rfl
theorem mem_above (p q : ByteArray) : q ∈ aboveS p ↔ liesS p q = true := by
 unfold aboveS aboveTo liesS
 rw [List.mem_filterMap]
 constructor
 ·rintro ⟨j,hj,h⟩
  rw [List.mem_range] at hj
  cases h47 : bt p (j : Int) == 47 with
  | false => rw [h47] at h; cases h
  | true =>
   rw [h47] at h
   simp only [cond_true,Option.some.injEq] at h
   subst h
   have hs : (p.extract 0 j).size = j := by rw [← toL_len,toL_extract]; simp [toL_len]; omega
   rw [hs,decide_eq_true (show j + 1 ≤ p.size by omega),cond_true,strEq_iff]
   apply toL_inj
   rw [toL_app,toL_extract,toL_extract]
   simp only [Nat.sub_zero,List.drop_zero]
   rw [List.take_add_one]
   congr 1
   have h2 : j < (toL p).length := by rw [toL_len]; exact hj
   rw [bt_toL p j hj,beq_iff_eq,List.getD_eq_getElem?_getD,List.getElem?_eq_getElem h2] at h47
   rw [List.getElem?_eq_getElem h2]
   simp only [Option.getD_some] at h47
   have : (toL p)[j] = 47 := UInt8.toNat_inj.1 (by show _ = 47; omega)
   simp [this]; rfl
 ·intro h
  cases hd : decide (q.size + 1 ≤ p.size) with
  | false => rw [hd] at h; cases h
  | true =>
   have hd := of_decide_eq_true hd
   rw [decide_eq_true hd,cond_true,strEq_iff] at h
   have h := congrArg toL h
   rw [toL_app,toL_extract] at h
   simp only [Nat.sub_zero,List.drop_zero] at h
   have h2 : q.size < (toL p).length := by rw [toL_len]; omega
   rw [List.take_add_one,List.getElem?_eq_getElem h2] at h
   have hq : ((toL p).take q.size).length = (toL q).length := by rw [List.length_take,toL_len,toL_len]; omega
   obtain ⟨h3,h4⟩ := List.append_inj h hq
   have h5 : (toL p)[q.size] = 47 := by
    have h6 : [(toL p)[q.size]] = ([47] : List UInt8) := h4
    simpa using h6
   refine ⟨q.size,List.mem_range.2 (by omega),?_⟩
   have h47 : (bt p (q.size : Int) == 47) = true := by
    rw [bt_toL p _ (by omega),List.getD_eq_getElem?_getD,List.getElem?_eq_getElem h2]
    simp [h5]
   rw [h47]
   simp only [cond_true,Option.some.injEq]
   apply toL_inj
   rw [toL_extract]
   simpa using h3
end
end Go.Lm
set_option maxRecDepth 100000
namespace Go.Lm
section
variable {R : Type}
theorem any_take {α : Type} (f : α → Bool) (l : List α) (z : α) (i : Nat) (h : i < l.length) : (l.take (i + 1)).any f = ((l.take i).any f || f (l.getD i z)) := by
 rw [List.take_add_one,List.any_append,List.getD_eq_getElem?_getD,List.getElem?_eq_getElem h]
 simp
def isIn (l : List ByteArray) (p : ByteArray) : Bool := l.any fun a => decide (a = p)
theorem isIn_iff (l : List ByteArray) (p : ByteArray) : isIn l p = true ↔ p ∈ l := by
 unfold isIn
 rw [List.any_eq_true]
 constructor
 ·rintro ⟨a,h,e⟩; rw [← of_decide_eq_true e]; exact h
 ·exact fun h => ⟨p,h,by simp⟩
abbrev Ids := Nat × Nat × Nat × Nat × Unit
abbrev U5 := Unit × Unit × Unit × Unit × Unit
abbrev u5 : U5 := ((),(),(),(),())
theorem tang_b2 {k : Nat} (hk : Many k) (ids : Ids) (r : RuleT) (ls : List LV) (n i : Int) (l11 : List LV) (m j : Int) (q : List ByteArray) (hq : q.length ≤ 300) (P : ByteArray → Bool) (S : List LV) (hS : IsSet S ids.2.2.1 P) :
  ∃ S',(IsSet S' ids.2.2.1 (fun p => P p || isIn q p) ∧ Keeps S S' [ids.2.2.1]) ∧
   ∀ J : U5 × Ids × RuleT × List LV × Int × Int × List LV × Int × Int × Unit → List LV → Option R,
    rounds (G.steps_tangleOf.b2 k J) k (u5,ids,r,ls,n,i,l11,m,j,q.map .str,(q.length : Int),0,()) S = J (u5,ids,r,ls,n,i,l11,m,j,()) S' := by
 unfold Many at hk
 have h := loop_all (R := R) (b := fun J => G.steps_tangleOf.b2 k J) (x := fun t => (u5,ids,r,ls,n,i,l11,m,j,q.map LV.str,(q.length : Int),(t : Int),())) (n := q.length)
  (Inv := fun t S1 => IsSet S1 ids.2.2.1 (fun p => P p || isIn (q.take t) p) ∧ Keeps S S1 [ids.2.2.1])
  (out := fun (J : U5 × Ids × RuleT × List LV × Int × Int × List LV × Int × Int × Unit → List LV → Option R) S' => J (u5,ids,r,ls,n,i,l11,m,j,()) S')
  (fun t S1 ht hI => ?_) (fun J rec S1 hI => ?_) k (by omega) S ⟨hS.congr (fun p => by simp [isIn]),Keeps.refl _ _⟩
 ·obtain ⟨S',⟨h1,h2⟩,h3⟩ := h
  rw [List.take_length] at h1
  exact ⟨S',⟨h1,h2⟩,h3⟩
 ·obtain ⟨S',h1,h2,h3⟩ := hI.1.put (R := R) (q.getD t (bs []))
  refine ⟨S',⟨h1.congr fun p => ?_,hI.2.trans h2⟩,fun J rec => ?_⟩
  ·unfold isIn
   rw [any_take _ q (bs []) t ht,Bool.or_assoc]
  ·unfold G.steps_tangleOf.b2
   dsimp only
   rw [lt_nat,ifB_pos ht,idxL_nat (by simpa using ht),map_str_get q t ht,asLeaf_str,h3,wrap_succ (by omega)]
 ·unfold G.steps_tangleOf.b2
  dsimp only
  rw [lt_nat,ifB_neg (Nat.lt_irrefl _)]
theorem tang_b4 {k : Nat} (hk : Many k) (ids : Ids) (ls : List LV) (n i : Int) (l11 : List LV) (m j : Int) (q : List ByteArray) (hq : q.length ≤ 300) (P : ByteArray → Bool) (S : List LV) (hS : IsSet S ids.2.2.2.1 P) :
  ∃ S',(IsSet S' ids.2.2.2.1 (fun p => P p || isIn q p) ∧ Keeps S S' [ids.2.2.2.1]) ∧
   ∀ J : U5 × Ids × List LV × Int × Int × List LV × Int × Int × Unit → List LV → Option R,
    rounds (G.steps_tangleOf.b4 k J) k (u5,ids,ls,n,i,l11,m,j,q.map .str,(q.length : Int),0,()) S = J (u5,ids,ls,n,i,l11,m,j,()) S' := by
 unfold Many at hk
 have h := loop_all (R := R) (b := fun J => G.steps_tangleOf.b4 k J) (x := fun t => (u5,ids,ls,n,i,l11,m,j,q.map LV.str,(q.length : Int),(t : Int),())) (n := q.length)
  (Inv := fun t S1 => IsSet S1 ids.2.2.2.1 (fun p => P p || isIn (q.take t) p) ∧ Keeps S S1 [ids.2.2.2.1])
  (out := fun (J : U5 × Ids × List LV × Int × Int × List LV × Int × Int × Unit → List LV → Option R) S' => J (u5,ids,ls,n,i,l11,m,j,()) S')
  (fun t S1 ht hI => ?_) (fun J rec S1 hI => ?_) k (by omega) S ⟨hS.congr (fun p => by simp [isIn]),Keeps.refl _ _⟩
 ·obtain ⟨S',⟨h1,h2⟩,h3⟩ := h
  rw [List.take_length] at h1
  exact ⟨S',⟨h1,h2⟩,h3⟩
 ·obtain ⟨S',h1,h2,h3⟩ := hI.1.put (R := R) (q.getD t (bs []))
  refine ⟨S',⟨h1.congr fun p => ?_,hI.2.trans h2⟩,fun J rec => ?_⟩
  ·unfold isIn
   rw [any_take _ q (bs []) t ht,Bool.or_assoc]
  ·unfold G.steps_tangleOf.b4
   dsimp only
   rw [lt_nat,ifB_pos ht,idxL_nat (by simpa using ht),map_str_get q t ht,asLeaf_str,h3,wrap_succ (by omega)]
 ·unfold G.steps_tangleOf.b4
  dsimp only
  rw [lt_nat,ifB_neg (Nat.lt_irrefl _)]
def over (l : List ByteArray) (p : ByteArray) : Bool := l.any fun q => isIn (aboveS q) p
theorem over_lies (l : List ByteArray) (p : ByteArray) : over l p = l.any fun q => liesS q p := by
 unfold over
 congr 1
 funext q
 rw [Bool.eq_iff_iff,isIn_iff,mem_above]
structure Tang (S : List LV) (ids : Ids) (O I OO OI : ByteArray → Bool) : Prop where
 o : IsSet S ids.1 O
 i : IsSet S ids.2.1 I
 oo : IsSet S ids.2.2.1 OO
 oi : IsSet S ids.2.2.2.1 OI
structure Apart (ids : Ids) : Prop where
 h12 : ids.1 ≠ ids.2.1
 h13 : ids.1 ≠ ids.2.2.1
 h14 : ids.1 ≠ ids.2.2.2.1
 h23 : ids.2.1 ≠ ids.2.2.1
 h24 : ids.2.1 ≠ ids.2.2.2.1
 h34 : ids.2.2.1 ≠ ids.2.2.2.1
def idL (ids : Ids) : List Nat := [ids.1,ids.2.1,ids.2.2.1,ids.2.2.2.1]
theorem tang_b1 {k : Nat} (hk : Many k) (ids : Ids) (hA : Apart ids) (r : Rule) (ls : List LV) (n i : Int) (hl : r.act.outs.length ≤ 100) (hp : ∀ p ∈ r.act.outs,p.size ≤ 300) {O I OO OI : ByteArray → Bool} (S : List LV) (hS : Tang S ids O I OO OI) :
  ∃ S',(Tang S' ids (fun p => O p || isIn r.act.outs p) I (fun p => OO p || over r.act.outs p) OI ∧ Keeps S S' (idL ids)) ∧
   ∀ J : U5 × Ids × RuleT × List LV × Int × Int × Unit → List LV → Option R,
    rounds (G.steps_tangleOf.b1 k J) k (u5,ids,r.tup,ls,n,i,r.act.outs.map .str,(r.act.outs.length : Int),0,()) S = J (u5,ids,r.tup,ls,n,i,()) S' := by
 have hk' := hk
 unfold Many at hk'
 generalize hq : r.act.outs = q at *
 have h := loop_all (R := R) (b := fun J => G.steps_tangleOf.b1 k J) (x := fun t => (u5,ids,r.tup,ls,n,i,q.map LV.str,(q.length : Int),(t : Int),())) (n := q.length)
  (Inv := fun t S1 => Tang S1 ids (fun p => O p || isIn (q.take t) p) I (fun p => OO p || over (q.take t) p) OI ∧ Keeps S S1 (idL ids))
  (out := fun (J : U5 × Ids × RuleT × List LV × Int × Int × Unit → List LV → Option R) S' => J (u5,ids,r.tup,ls,n,i,()) S')
  (fun t S1 ht hI => ?_) (fun J rec S1 hI => ?_) k (by omega) S ⟨⟨hS.o.congr (fun p => by simp [isIn]),hS.i,hS.oo.congr (fun p => by simp [over]),hS.oi⟩,Keeps.refl _ _⟩
 ·obtain ⟨S',⟨h1,h2⟩,h3⟩ := h
  rw [List.take_length] at h1
  exact ⟨S',⟨h1,h2⟩,h3⟩
 ·obtain ⟨hT,hK⟩ := hI
  have hsz : (q.getD t (bs [])).size ≤ 300 := hp _ (by rw [List.getD_eq_getElem?_getD,List.getElem?_eq_getElem ht]; exact List.getElem_mem ht)
  obtain ⟨S2,h1,h2,h3⟩ := hT.o.put (R := R) (q.getD t (bs []))
  have hoo := hT.oo.keeps h2 (by simp; exact Ne.symm hA.h13)
  have hlen : (aboveS (q.getD t (bs []))).length ≤ 300 := Nat.le_trans (aboveTo_len _ _) hsz
  obtain ⟨S3,⟨h4,h5⟩,h6⟩ := tang_b2 (R := R) hk ids r.tup ls n i (q.map LV.str) (q.length : Int) (t : Int) (aboveS (q.getD t (bs []))) hlen _ S2 hoo
  refine ⟨S3,⟨⟨(h1.keeps h5 (by simp; exact hA.h13)).congr fun p => ?_,(hT.i.keeps h2 (by simp; exact Ne.symm hA.h12)).keeps h5 (by simp; exact hA.h23),h4.congr fun p => ?_,(hT.oi.keeps h2 (by simp; exact Ne.symm hA.h14)).keeps h5 (by simp; exact Ne.symm hA.h34)⟩,hK.trans ((h2.weak ?_).trans (h5.weak ?_))⟩,fun J rec => ?_⟩
  ·unfold isIn
   rw [any_take _ q (bs []) t ht,Bool.or_assoc]
  ·unfold over
   rw [any_take _ q (bs []) t ht,Bool.or_assoc]
  ·intro m hm; left; simp at hm; simp [idL,hm]
  ·intro m hm; left; simp at hm; simp [idL,hm]
  ·unfold G.steps_tangleOf.b1
   dsimp only
   rw [lt_nat,ifB_pos ht,idxL_nat (by simpa using ht),map_str_get q t ht,asLeaf_str,h3,prog_above hk _ hsz]
   dsimp only
   rw [List.length_map,h6]
   dsimp only
   rw [wrap_succ (by omega)]
 ·unfold G.steps_tangleOf.b1
  dsimp only
  rw [lt_nat,ifB_neg (Nat.lt_irrefl _)]
theorem tang_b3 {k : Nat} (hk : Many k) (ids : Ids) (hA : Apart ids) (ls : List LV) (n i : Int) (q : List ByteArray) (hl : q.length ≤ 1000) (hp : ∀ p ∈ q,p.size ≤ 300) {O I OO OI : ByteArray → Bool} (S : List LV) (hS : Tang S ids O I OO OI) :
  ∃ S',(Tang S' ids O (fun p => I p || isIn q p) OO (fun p => OI p || over q p) ∧ Keeps S S' (idL ids)) ∧
   ∀ J : U5 × Ids × List LV × Int × Int × Unit → List LV → Option R,
    rounds (G.steps_tangleOf.b3 k J) k (u5,ids,ls,n,i,q.map .str,(q.length : Int),0,()) S = J (u5,ids,ls,n,i,()) S' := by
 have hk' := hk
 unfold Many at hk'
 have h := loop_all (R := R) (b := fun J => G.steps_tangleOf.b3 k J) (x := fun t => (u5,ids,ls,n,i,q.map LV.str,(q.length : Int),(t : Int),())) (n := q.length)
  (Inv := fun t S1 => Tang S1 ids O (fun p => I p || isIn (q.take t) p) OO (fun p => OI p || over (q.take t) p) ∧ Keeps S S1 (idL ids))
  (out := fun (J : U5 × Ids × List LV × Int × Int × Unit → List LV → Option R) S' => J (u5,ids,ls,n,i,()) S')
  (fun t S1 ht hI => ?_) (fun J rec S1 hI => ?_) k (by omega) S ⟨⟨hS.o,hS.i.congr (fun p => by simp [isIn]),hS.oo,hS.oi.congr (fun p => by simp [over])⟩,Keeps.refl _ _⟩
 ·obtain ⟨S',⟨h1,h2⟩,h3⟩ := h
  rw [List.take_length] at h1
  exact ⟨S',⟨h1,h2⟩,h3⟩
 ·obtain ⟨hT,hK⟩ := hI
  have hsz : (q.getD t (bs [])).size ≤ 300 := hp _ (by rw [List.getD_eq_getElem?_getD,List.getElem?_eq_getElem ht]; exact List.getElem_mem ht)
  obtain ⟨S2,h1,h2,h3⟩ := hT.i.put (R := R) (q.getD t (bs []))
  have hoo := hT.oi.keeps h2 (by simp; exact Ne.symm hA.h24)
  have hlen : (aboveS (q.getD t (bs []))).length ≤ 300 := Nat.le_trans (aboveTo_len _ _) hsz
  obtain ⟨S3,⟨h4,h5⟩,h6⟩ := tang_b4 (R := R) hk ids ls n i (q.map LV.str) (q.length : Int) (t : Int) (aboveS (q.getD t (bs []))) hlen _ S2 hoo
  refine ⟨S3,⟨⟨(hT.o.keeps h2 (by simp; exact hA.h12)).keeps h5 (by simp; exact hA.h14),(h1.keeps h5 (by simp; exact hA.h24)).congr fun p => ?_,(hT.oo.keeps h2 (by simp; exact Ne.symm hA.h23)).keeps h5 (by simp; exact hA.h34),h4.congr fun p => ?_⟩,hK.trans ((h2.weak ?_).trans (h5.weak ?_))⟩,fun J rec => ?_⟩
  ·unfold isIn
   rw [any_take _ q (bs []) t ht,Bool.or_assoc]
  ·unfold over
   rw [any_take _ q (bs []) t ht,Bool.or_assoc]
  ·intro m hm; left; simp at hm; simp [idL,hm]
  ·intro m hm; left; simp at hm; simp [idL,hm]
  ·unfold G.steps_tangleOf.b3
   dsimp only
   rw [lt_nat,ifB_pos ht,idxL_nat (by simpa using ht),map_str_get q t ht,asLeaf_str,h3,prog_above hk _ hsz]
   dsimp only
   rw [List.length_map,h6]
   dsimp only
   rw [wrap_succ (by omega)]
 ·unfold G.steps_tangleOf.b3
  dsimp only
  rw [lt_nat,ifB_neg (Nat.lt_irrefl _)]
end
end Go.Lm
set_option maxRecDepth 100000
namespace Go.Lm
section
variable {R : Type}
structure RuleFit (r : Rule) : Prop where
 on : r.act.outs.length ≤ 100
 os : ∀ p ∈ r.act.outs,p.size ≤ 300
 im : r.ins.length ≤ 1000
 is : ∀ p ∈ r.ins,p.size ≤ 300
def outsIn (l : List Rule) (p : ByteArray) : Bool := l.any fun r => isIn r.act.outs p
def insIn (l : List Rule) (p : ByteArray) : Bool := l.any fun r => isIn r.ins p
def overOuts (l : List Rule) (p : ByteArray) : Bool := l.any fun r => over r.act.outs p
def overIns (l : List Rule) (p : ByteArray) : Bool := l.any fun r => over r.ins p
theorem tang_b0 {k : Nat} (hk : Many k) (ids : Ids) (hA : Apart ids) (l : List Rule) (hn : l.length ≤ 500) (hf : ∀ r ∈ l,RuleFit r) (S : List LV) (hS : Tang S ids (fun _ => false) (fun _ => false) (fun _ => false) (fun _ => false)) :
  ∃ S',(Tang S' ids (outsIn l) (insIn l) (overOuts l) (overIns l) ∧ Keeps S S' (idL ids)) ∧
   ∀ J : U5 × Ids × Unit → List LV → Option R,rounds (G.steps_tangleOf.b0 k J) k (u5,ids,l.map Rule.lv,(l.length : Int),0,()) S = J (u5,ids,()) S' := by
 have hk' := hk
 unfold Many at hk'
 have h := loop_all (R := R) (b := fun J => G.steps_tangleOf.b0 k J) (x := fun t => (u5,ids,l.map Rule.lv,(l.length : Int),(t : Int),())) (n := l.length)
  (Inv := fun t S1 => Tang S1 ids (outsIn (l.take t)) (insIn (l.take t)) (overOuts (l.take t)) (overIns (l.take t)) ∧ Keeps S S1 (idL ids))
  (out := fun (J : U5 × Ids × Unit → List LV → Option R) S' => J (u5,ids,()) S')
  (fun t S1 ht hI => ?_) (fun J rec S1 hI => ?_) k (by omega) S ⟨hS,Keeps.refl _ _⟩
 ·obtain ⟨S',⟨h1,h2⟩,h3⟩ := h
  rw [List.take_length] at h1
  exact ⟨S',⟨h1,h2⟩,h3⟩
 ·obtain ⟨hT,hK⟩ := hI
  have fit := hf _ (rule_mem l t ht)
  obtain ⟨S2,⟨h1,h2⟩,h3⟩ := tang_b1 (R := R) hk ids hA (l.getD t .zero) (l.map Rule.lv) (l.length : Int) (t : Int) fit.on fit.os S1 hT
  obtain ⟨S3,⟨h4,h5⟩,h6⟩ := tang_b3 (R := R) hk ids hA (l.map Rule.lv) (l.length : Int) (t : Int) (l.getD t .zero).ins fit.im fit.is S2 h1
  refine ⟨S3,⟨⟨h4.o.congr fun p => ?_,h4.i.congr fun p => ?_,h4.oo.congr fun p => ?_,h4.oi.congr fun p => ?_⟩,hK.trans (h2.trans h5)⟩,fun J rec => ?_⟩
  ·unfold outsIn; rw [any_take _ l .zero t ht]
  ·unfold insIn; rw [any_take _ l .zero t ht]
  ·unfold overOuts; rw [any_take _ l .zero t ht]
  ·unfold overIns; rw [any_take _ l .zero t ht]
  ·unfold G.steps_tangleOf.b0
   dsimp only
   rw [lt_nat,ifB_pos ht,idxL_nat (by simpa using ht),rule_get l t ht,Rule.mat,rule_cells,List.length_map]
   refine (h3 _).trans ?_
   dsimp only
   rw [List.length_map]
   refine (h6 _).trans ?_
   dsimp only
   rw [wrap_succ (by omega)]
 ·unfold G.steps_tangleOf.b0
  dsimp only
  rw [lt_nat,ifB_neg (Nat.lt_irrefl _)]
theorem prog_tangleOf {k : Nat} (hk : Many k) (l : List Rule) (hn : l.length ≤ 500) (hf : ∀ r ∈ l,RuleFit r) (S : List LV) :
  ∃ S',∃ ids : Ids,(Apart ids ∧ Tang S' ids (outsIn l) (insIn l) (overOuts l) (overIns l) ∧ Keeps S S' [] ∧ ∀ i ∈ idL ids,S.length ≤ i) ∧
   ∀ K : Ids × Unit → List LV → Option R,G.steps_tangleOf.fn k (l.map Rule.lv,()) S K = K (ids,()) S' := by
 let ids : Ids := (S.length,S.length + 1,S.length + 2,S.length + 3,())
 let S4 : List LV := S ++ [.mp .str []] ++ [.mp .str []] ++ [.mp .str []] ++ [.mp .str []]
 have hA : Apart ids := ⟨by simp [ids],by simp [ids],by simp [ids],by simp [ids],by simp [ids],by simp [ids]⟩
 have e : ∀ T : List LV,IsSet (T ++ [.mp .str []]) T.length fun _ => false := IsSet.empty
 have g : ∀ (T : List LV) (id : Nat) (v : LV),IsSet T id (fun _ => false) → IsSet (T ++ [v]) id (fun _ => false) := fun T id v h => h.keeps (Keeps.app T [v] []) (by simp)
 have hT : Tang S4 ids (fun _ => false) (fun _ => false) (fun _ => false) (fun _ => false) :=
  ⟨g _ _ _ (g _ _ _ (g _ _ _ (e S))),g _ _ _ (g _ _ _ (by have := e (S ++ [.mp .str []]); simpa [ids] using this)),g _ _ _ (by have := e (S ++ [.mp .str []] ++ [.mp .str []]); simpa [ids] using this),by have := e (S ++ [.mp .str []] ++ [.mp .str []] ++ [.mp .str []]); simpa [ids,S4] using this⟩
 obtain ⟨S',⟨h1,h2⟩,h3⟩ := tang_b0 (R := R) hk ids hA l hn hf S4 hT
 have hm : ∀ i ∈ idL ids,S.length ≤ i := by
  intro i hi
  simp [idL,ids] at hi
  omega
 have hS4 : Keeps S S4 [] := by
  have : S4 = S ++ [.mp .str [],.mp .str [],.mp .str [],.mp .str []] := by simp [S4]
  rw [this]; exact Keeps.app _ _ _
 refine ⟨S',ids,⟨hA,h1,⟨Nat.le_trans hS4.1 h2.1,fun j hj _ => ?_⟩,hm⟩,fun K => ?_⟩
 ·rw [h2.2 j (Nat.lt_of_lt_of_le hj hS4.1) (fun hc => by have := hm j hc; omega),hS4.2 j hj (by simp)]
 ·unfold G.steps_tangleOf.fn newObj
  dsimp only
  rw [List.length_map]
  have := h3 fun o S => K ((o.2.1.1,o.2.1.2.1,o.2.1.2.2.1,o.2.1.2.2.2.1,()),()) S
  simp only [ids,S4] at this ⊢
  simp only [List.length_append,List.length_cons,List.length_nil,Nat.zero_add] at this ⊢
  exact this
def clashesS (l : List Rule) (p : ByteArray) : Bool := overIns l p || (aboveS p).any fun q => outsIn l q || insIn l q
theorem clash_one (k : Nat) (ids : Ids) (O I OO OI : ByteArray → Bool) (S : List LV) (hT : Tang S ids O I OO OI) (id : Nat) (hid : S.getD id .any = .obj 92 [.map ids.1,.map ids.2.1,.map ids.2.2.1,.map ids.2.2.2.1]) (q : ByteArray) (K : Bool × Unit → List LV → Option R) :
  G.steps_tangle_clashes_1.fn k (q,(id,0),()) S K = K (O q || I q,()) S := by
 unfold G.steps_tangle_clashes_1.fn
 dsimp only
 rw [at_of hid]
 have e : ∀ K : LV → Option R,ldRaw [LV.map ids.1,.map ids.2.1,.map ids.2.2.1,.map ids.2.2.2.1] (0 + 0) K = K (.map ids.1) := fun K => rfl
 have e1 : ∀ K : LV → Option R,ldRaw [LV.map ids.1,.map ids.2.1,.map ids.2.2.1,.map ids.2.2.2.1] (0 + 1) K = K (.map ids.2.1) := fun K => rfl
 have e2 : ∀ i (K : Nat → Option R),asMap (.map i) K = K i := fun i K => rfl
 rw [e,e2,hT.o.get]
 cases O q with
 | true => rfl
 | false =>
  rw [ifB_false,at_of hid,e1,e2,hT.i.get]; rfl
theorem clash_any {k : Nat} (hk : Many k) (ids : Ids) (O I OO OI : ByteArray → Bool) (S : List LV) (hT : Tang S ids O I OO OI) (id : Nat) (hid : S.getD id .any = .obj 92 [.map ids.1,.map ids.2.1,.map ids.2.2.1,.map ids.2.2.2.1]) (q : List ByteArray) (hq : q.length ≤ 300) (K : Bool × Unit → List LV → Option R) :
  G.slices_ContainsFunc_s_string_string_at_steps_tangle_clashes_1.fn k (q.map .str,((id,0),()),()) S K = K (q.any (fun p => O p || I p),()) S := by
 unfold Many at hk
 unfold G.slices_ContainsFunc_s_string_string_at_steps_tangle_clashes_1.fn G.slices_IndexFunc_s_string_string_at_steps_tangle_clashes_1.fn
 dsimp only
 rw [List.length_map]
 refine (rounds_scan0 (fun t => (q.map LV.str,((id,0),()),(q.length : Int),(t : Int),())) S q.length k (fun t => cond (O (q.getD t (bs [])) || I (q.getD t (bs []))) (some (K (true,()) S)) none) (K (false,()) S) (fun rec t ht => ?_) (fun rec => ?_) (by omega)).trans ?_
 ·unfold G.slices_IndexFunc_s_string_string_at_steps_tangle_clashes_1.b0
  dsimp only
  rw [lt_nat,ifB_pos ht,idxL_nat (by simpa using ht),map_str_get q t ht,asLeaf_str,clash_one k ids O I OO OI S hT id hid,wrap_succ (by omega)]
  cases O (q.getD t (bs [])) || I (q.getD t (bs [])) with
  | true =>
   dsimp only [cond]
   rw [ifB_true,decide_eq_true (show ((t : Int)) ≥ 0 by omega)]
  | false => rfl
 ·unfold G.slices_IndexFunc_s_string_string_at_steps_tangle_clashes_1.b0
  dsimp only
  rw [lt_nat,ifB_neg (Nat.lt_irrefl _)]; rfl
 ·rw [scan_first0 (bs []) (fun p => O p || I p)]
  cases q.any fun p => O p || I p <;> rfl
theorem prog_clash {k : Nat} (hk : Many k) (l : List Rule) (ids : Ids) (S : List LV) {OO : ByteArray → Bool} (hT : Tang S ids (outsIn l) (insIn l) OO (overIns l)) (p : ByteArray) (hp : p.size ≤ 300) :
  ∃ S',Keeps S S' [] ∧ ∀ K : Bool × Unit → List LV → Option R,G.steps_tangle_clashes.fn k (ids,p,()) S K = K (clashesS l p,()) S' := by
 let ob : LV := .obj 92 [.map ids.1,.map ids.2.1,.map ids.2.2.1,.map ids.2.2.2.1]
 have hk1 : Keeps S (S ++ [ob]) [] := Keeps.app _ _ _
 refine ⟨S ++ [ob],hk1,fun K => ?_⟩
 have hT1 : Tang (S ++ [ob]) ids (outsIn l) (insIn l) OO (overIns l) := ⟨hT.o.keeps hk1 (by simp),hT.i.keeps hk1 (by simp),hT.oo.keeps hk1 (by simp),hT.oi.keeps hk1 (by simp)⟩
 have hid : (S ++ [ob]).getD S.length .any = ob := get_end _ _
 unfold G.steps_tangle_clashes.fn newObj clashesS
 dsimp only
 rw [at_of hid]
 have e : ∀ K : LV → Option R,ldRaw [LV.map ids.1,.map ids.2.1,.map ids.2.2.1,.map ids.2.2.2.1] 3 K = K (.map ids.2.2.2.1) := fun K => rfl
 have e2 : ∀ i (K : Nat → Option R),asMap (.map i) K = K i := fun i K => rfl
 rw [e,e2,hT1.oi.get]
 cases overIns l p with
 | true => rfl
 | false =>
  rw [ifB_false,prog_above hk p hp]
  dsimp only
  rw [clash_any hk ids (outsIn l) (insIn l) OO (overIns l) _ hT1 S.length hid (aboveS p) (Nat.le_trans (aboveTo_len _ _) hp)]
  rfl
end
end Go.Lm
set_option maxRecDepth 100000
namespace Go.Lm
section
variable {R : Type}
structure RulesOk (l : List Rule) : Prop where
 n : l.length ≤ 140737488355328
 r : ∀ r ∈ l,RuleOk r
 on : ∀ r ∈ l,r.act.outs.length ≤ 140737488355328
 is : ∀ r ∈ l,∀ p ∈ r.ins,p.size ≤ 140737488355328
def ruleName (l : List Rule) (i : Nat) : ByteArray := (l.getD i .zero).name
def nameE (l : List Rule) (i : Nat) : Option Int := cond (ruleS (l.getD i .zero) == 0) (cond (decide (0 < i) && (strLt (ruleName l i) (ruleName l (i - 1)) || strEq (ruleName l i) (ruleName l (i - 1)))) (some 8) none) (some (ruleS (l.getD i .zero)))
def clashOuts (l : List Rule) (i : Nat) (p : ByteArray) (k : Nat) : Bool := (!(k == i)) && (l.getD k .zero).act.outs.any fun q => liesS p q
def clashIns (l : List Rule) (p : ByteArray) (k : Nat) : Bool := (l.getD k .zero).ins.any fun q => liesS p q || liesS q p
def clashAt (l : List Rule) (i : Nat) (p : ByteArray) (k : Nat) : Bool := clashOuts l i p k || clashIns l p k
def refClash (l : List Rule) (i : Nat) (p : ByteArray) : Bool := (List.range l.length).any (clashAt l i p)
def outE (l : List Rule) (i : Nat) (p : ByteArray) : Option Int := cond (outsIn (l.take i) p) (some 7) (cond (refClash l i p) (some 12) none)
def outAt (l : List Rule) (i j : Nat) : ByteArray := (l.getD i .zero).act.outs.getD j (bs [])
def ruleOutE (l : List Rule) (i : Nat) : Option Int := scanE (fun j => outE l i (outAt l i j)) (l.getD i .zero).act.outs.length 0
def allOutE (l : List Rule) : Option Int := scanE (ruleOutE l) l.length 0
theorem scan_range {β : Type} (f : Nat → Bool) (a b : β) : ∀ d i,scan (fun k => cond (f k) (some a) none) b d i = cond ((List.range' i d).any f) a b
 | 0,i => rfl
 | d + 1,i => by
  simp only [scan,List.range'_succ,List.any_cons]
  cases f i with
  | true => rfl
  | false => exact scan_range f a b d (i + 1)
theorem scan_range0 {β : Type} (f : Nat → Bool) (a b : β) (n : Nat) : scan (fun k => cond (f k) (some a) none) b n 0 = cond ((List.range n).any f) a b := by
 rw [scan_range,List.range_eq_range']
theorem scan_scanE {β : Type} (f : Int → β) (fin : β) (e : Nat → Option Int) (d i : Nat) : scan (fun j => (e j).map f) fin d i = ((scanE e d i).map f).getD fin := scan_firstE f fin e d i
theorem ref_has {k : Nat} (hk : Many k) (l : List ByteArray) (hl : l.length ≤ 140737488355328) (p : ByteArray) (S : List LV) (K : Bool × Unit → List LV → Option R) : G.smithyardref6_has.fn k (l.map .str,p,()) S K = K (isIn l p,()) S := by
 unfold Many at hk
 unfold G.smithyardref6_has.fn
 refine (rounds_scan0 (fun t => (l.map LV.str,p,(t : Int),())) S l.length k (fun t => cond (decide (l.getD t (bs []) = p)) (some (K (true,()) S)) none) (K (false,()) S) (fun rec t ht => ?_) (fun rec => ?_) (by omega)).trans ?_
 ·unfold G.smithyardref6_has.b0
  dsimp only
  rw [List.length_map,lt_nat,ifB_pos ht,idxL_nat (by simpa using ht),map_str_get l t ht,asLeaf_str,strEq_dec,wrap_succ (by omega)]
  cases decide (l.getD t (bs []) = p) <;> rfl
 ·unfold G.smithyardref6_has.b0
  dsimp only
  rw [List.length_map,lt_nat,ifB_neg (Nat.lt_irrefl _)]
 ·rw [scan_first0 (bs []) (fun a => decide (a = p))]
  unfold isIn
  cases l.any fun a => decide (a = p) <;> rfl
theorem ref_nested (k : Nat) (p q : ByteArray) (hp : p.size ≤ 140737488355328) (hq : q.size ≤ 140737488355328) (S : List LV) (K : Bool × Unit → List LV → Option R) : G.smithyardref6_nested.fn k (p,q,()) S K = K (liesS p q || liesS q p,()) S := by
 unfold G.smithyardref6_nested.fn
 dsimp only
 rw [ref_Lies k p q hq]
 dsimp only
 cases liesS p q with
 | true => rfl
 | false => rw [ifB_false,ref_Lies k q p hp]; rfl
theorem ne_nat (i n : Nat) : ((i : Int) != (n : Int)) = !(i == n) := by
 rw [show ((i : Int) != (n : Int)) = !((i : Int) == (n : Int)) from rfl]
 congr 1
 rw [Bool.eq_iff_iff,beq_iff_eq,beq_iff_eq]; omega
theorem co_b2 {k : Nat} (hk : Many k) (l : List Rule) (ok : RulesOk l) (i t : Nat) (ht : t < l.length) (p : ByteArray) (S : List LV) (J : List LV × Int × ByteArray × Int × Unit → List LV → Option R) (Jr : Int × Unit → List LV → Option R) :
  rounds (G.smithyardref6_checkOutput.b2 k J Jr) k (l.map Rule.lv,(i : Int),p,(t : Int),0,()) S = cond (clashOuts l i p t) (Jr (12,()) S) (J (l.map Rule.lv,(i : Int),p,(t : Int),()) S) := by
 unfold Many at hk
 have hm := rule_mem l t ht
 generalize hr : l.getD t .zero = r at *
 have hget : ∀ (j : Int) (K : LV → Option R),idxL (l.map Rule.lv) (t : Int) K = K r.lv := fun j K => by rw [idxL_nat (by simpa using ht),rule_get l t ht,hr]
 have hon := ok.on r hm
 cases hti : t == i with
 | true =>
  obtain ⟨m,hkm⟩ : ∃ m,k = m + 1 := ⟨k - 1,by omega⟩
  conv => lhs; arg 2; rw [hkm]
  rw [rounds_succ]
  unfold G.smithyardref6_checkOutput.b2
  dsimp only
  rw [hget 0,rule_outs,ne_nat,hti,Bool.not_true,ifB_false]
  unfold clashOuts
  rw [hti]
  cases hl : decide ((0 : Int) < ((r.act.outs.map LV.str).length : Int)) <;> rfl
 | false =>
  refine (rounds_scan0 (fun j => (l.map Rule.lv,(i : Int),p,(t : Int),(j : Int),())) S r.act.outs.length k (fun j => cond (liesS p (r.act.outs.getD j (bs []))) (some (Jr (12,()) S)) none) (J (l.map Rule.lv,(i : Int),p,(t : Int),()) S) (fun rec j hj => ?_) (fun rec => ?_) (by omega)).trans ?_
  ·unfold G.smithyardref6_checkOutput.b2 G.smithyardref6_checkOutput.q0
   dsimp only
   have hq : (r.act.outs.getD j (bs [])).size ≤ 140737488355328 := (ok.r r hm).act.outs _ (by rw [List.getD_eq_getElem?_getD,List.getElem?_eq_getElem hj]; exact List.getElem_mem hj)
   rw [hget 0,rule_outs,List.length_map,lt_nat,ifB_pos hj,ne_nat,hti,Bool.not_false,ifB_true,hget 0,rule_outs,idxL_nat (by simpa using hj),map_str_get _ j hj,asLeaf_str,ref_Lies k p _ hq,wrap_succ (by omega)]
   cases liesS p (r.act.outs.getD j (bs [])) <;> rfl
  ·unfold G.smithyardref6_checkOutput.b2
   dsimp only
   rw [hget 0,rule_outs,List.length_map,lt_nat,ifB_neg (Nat.lt_irrefl _)]
  ·rw [scan_first0 (bs []) (fun q => liesS p q)]
   unfold clashOuts
   rw [hr,hti,Bool.not_false,Bool.true_and]
theorem co_b3 {k : Nat} (hk : Many k) (l : List Rule) (ok : RulesOk l) (i t : Nat) (ht : t < l.length) (p : ByteArray) (hp : p.size ≤ 140737488355328) (S : List LV) (J : List LV × Int × ByteArray × Int × Unit → List LV → Option R) (Jr : Int × Unit → List LV → Option R) :
  rounds (G.smithyardref6_checkOutput.b3 k J Jr) k (l.map Rule.lv,(i : Int),p,(t : Int),0,()) S = cond (clashIns l p t) (Jr (12,()) S) (J (l.map Rule.lv,(i : Int),p,(t : Int),()) S) := by
 unfold Many at hk
 have hm := rule_mem l t ht
 generalize hr : l.getD t .zero = r at *
 have hget : ∀ (K : LV → Option R),idxL (l.map Rule.lv) (t : Int) K = K r.lv := fun K => by rw [idxL_nat (by simpa using ht),rule_get l t ht,hr]
 have hon := (ok.r r hm).ins
 refine (rounds_scan0 (fun j => (l.map Rule.lv,(i : Int),p,(t : Int),(j : Int),())) S r.ins.length k (fun j => cond (liesS p (r.ins.getD j (bs [])) || liesS (r.ins.getD j (bs [])) p) (some (Jr (12,()) S)) none) (J (l.map Rule.lv,(i : Int),p,(t : Int),()) S) (fun rec j hj => ?_) (fun rec => ?_) (by omega)).trans ?_
 ·unfold G.smithyardref6_checkOutput.b3
  dsimp only
  have hq : (r.ins.getD j (bs [])).size ≤ 140737488355328 := ok.is r hm _ (by rw [List.getD_eq_getElem?_getD,List.getElem?_eq_getElem hj]; exact List.getElem_mem hj)
  rw [hget,rule_ins,List.length_map,lt_nat,ifB_pos hj,hget,rule_ins,idxL_nat (by simpa using hj),map_str_get _ j hj,asLeaf_str,ref_nested k p _ hp hq,wrap_succ (by omega)]
  cases liesS p (r.ins.getD j (bs [])) || liesS (r.ins.getD j (bs [])) p <;> rfl
 ·unfold G.smithyardref6_checkOutput.b3
  dsimp only
  rw [hget,rule_ins,List.length_map,lt_nat,ifB_neg (Nat.lt_irrefl _)]
 ·rw [scan_first0 (bs []) (fun q => liesS p q || liesS q p)]
  unfold clashIns
  rw [hr]
theorem ref_checkOutput {k : Nat} (hk : Many k) (l : List Rule) (ok : RulesOk l) (i : Nat) (hi : i < l.length) (p : ByteArray) (hp : p.size ≤ 140737488355328) (S : List LV) (K : Int × Unit → List LV → Option R) :
  G.smithyardref6_checkOutput.fn k (l.map Rule.lv,(i : Int),p,()) S K = K ((outE l i p).getD 0,()) S := by
 have hk' := hk
 have hn := ok.n
 unfold Many at hk'
 unfold G.smithyardref6_checkOutput.fn
 refine (rounds_scan0 (fun t => (l.map Rule.lv,(i : Int),p,(t : Int),())) S i k (fun t => cond (isIn (l.getD t .zero).act.outs p) (some (K (7,()) S)) none) (K ((cond (refClash l i p) (some (12 : Int)) none).getD 0,()) S) (fun rec t ht => ?_) (fun rec => ?_) (by omega)).trans ?_
 ·have htl : t < l.length := by omega
  unfold G.smithyardref6_checkOutput.b0
  dsimp only
  rw [lt_nat,ifB_pos ht,idxL_nat (by simpa using htl),rule_get l t htl,rule_outs,ref_has hk _ (ok.on _ (rule_mem l t htl)),wrap_succ (by omega)]
  cases isIn (l.getD t .zero).act.outs p <;> rfl
 ·unfold G.smithyardref6_checkOutput.b0
  dsimp only
  rw [lt_nat,ifB_neg (Nat.lt_irrefl _)]
  refine (rounds_scan0 (fun t => (l.map Rule.lv,(i : Int),p,(t : Int),())) S l.length k (fun t => cond (clashAt l i p t) (some (K (12,()) S)) none) (K (0,()) S) (fun rec t ht => ?_) (fun rec => ?_) (by omega)).trans ?_
  ·unfold G.smithyardref6_checkOutput.b1
   dsimp only
   rw [List.length_map,lt_nat,ifB_pos ht,co_b2 hk l ok i t ht p]
   unfold clashAt
   cases clashOuts l i p t with
   | true => rfl
   | false =>
    dsimp only [cond]
    rw [co_b3 hk l ok i t ht p hp,Bool.false_or]
    cases clashIns l p t with
    | true => rfl
    | false =>
     dsimp only [cond]
     rw [wrap_succ (by omega)]
  ·unfold G.smithyardref6_checkOutput.b1
   dsimp only
   rw [List.length_map,lt_nat,ifB_neg (Nat.lt_irrefl _)]
  ·rw [scan_range0]
   unfold refClash
   cases (List.range l.length).any (clashAt l i p) <;> rfl
 ·have e : ∀ d j,j + d = i → scan (fun t => cond (isIn (l.getD t .zero).act.outs p) (some (K (7,()) S)) none) (K ((cond (refClash l i p) (some (12 : Int)) none).getD 0,()) S) d j = cond (((l.take i).drop j).any fun r => isIn r.act.outs p) (K (7,()) S) (K ((cond (refClash l i p) (some (12 : Int)) none).getD 0,()) S) := fun d => by
   induction d with
   | zero =>
    intro j hj
    rw [List.drop_of_length_le (by rw [List.length_take]; omega)]; rfl
   | succ d ih =>
    intro j hj
    have hlt : j < (l.take i).length := by rw [List.length_take]; omega
    rw [List.drop_eq_getElem_cons hlt,List.any_cons]
    have e1 : l.getD j .zero = (l.take i)[j] := by rw [List.getD_eq_getElem?_getD,List.getElem?_eq_getElem (by omega : j < l.length)]; simp
    simp only [scan]
    rw [e1]
    cases isIn (l.take i)[j].act.outs p with
    | true => rfl
    | false => exact ih (j + 1) (by omega)
  rw [e i 0 (by omega),List.drop_zero]
  unfold outE outsIn
  cases (l.take i).any fun r => isIn r.act.outs p <;> rfl
end
end Go.Lm
set_option maxRecDepth 100000
namespace Go.Lm
section
variable {R : Type}
def ints (l : List Nat) : List LV := l.map fun (n : Nat) => LV.int .i64 (n : Int)
def bools (l : List Bool) : List LV := l.map LV.bool
theorem ints_len (l : List Nat) : (ints l).length = l.length := by simp [ints]
theorem bools_len (l : List Bool) : (bools l).length = l.length := by simp [bools]
theorem ints_get (l : List Nat) (i : Nat) (h : i < l.length) : (ints l).getD i .any = .int .i64 ((l.getD i 0 : Nat) : Int) := by simp [ints,List.getD_eq_getElem?_getD,h]
theorem bools_get (l : List Bool) (i : Nat) (h : i < l.length) : (bools l).getD i .any = .bool (l.getD i false) := by simp [bools,List.getD_eq_getElem?_getD,h]
theorem ints_snoc (l : List Nat) (n : Nat) : ints l ++ [.int .i64 (n : Int)] = ints (l ++ [n]) := by simp [ints]
theorem leaf_int (n : Int) (K : Int → Option R) : asInt .i64 (leaf (.int .i64 n) 0) K = K n := asInt_int _ _ _
theorem leaf_bool (b : Bool) (K : Bool → Option R) : asBool (leaf (.bool b) 0) K = K b := rfl
theorem idxN_nat {n i : Nat} (h : i < n) (K : Nat → Option R) : idxN n (i : Int) K = K i := by
 unfold idxN
 rw [ifB_pos ⟨by omega,by omega⟩,Int.toNat_natCast]
theorem zeros_bool (n : Nat) : zeros n [.bool false] = bools (List.replicate n false) := by
 unfold zeros bools
 rw [List.map_replicate]
 induction n with
 | zero => rfl
 | succ n ih => rw [List.replicate_succ,List.flatten_cons,ih]; rfl
theorem zeros_nil (n : Nat) (v : LV) : zeros n [v] = List.replicate n v := by
 unfold zeros
 induction n with
 | zero => rfl
 | succ n ih => rw [List.replicate_succ,List.flatten_cons,ih]; rfl
theorem mkN_nat {n b : Nat} (h : b * n ≤ 140737488355328) (K : Nat → Option R) (hb : n ≤ 140737488355328) : mkN (n : Int) b K = K n := by
 unfold mkN
 rw [ifB_pos ⟨by omega,by rw [← Int.natCast_mul]; omega,by omega⟩,Int.toNat_natCast]
def BoolsAt (S : List LV) (id : Nat) (d : List Bool) : Prop := S.getD id .any = .obj 4 (bools d)
theorem BoolsAt.ld {S : List LV} {id : Nat} {d : List Bool} (h : BoolsAt S id d) {i : Nat} (hi : i < d.length) (K : Bool → Option R) : (objAt S id fun _ c => ldBool c (0 + i * 1) K) = K (d.getD i false) := by
 rw [at_of h]
 unfold ldBool
 rw [Nat.zero_add,Nat.mul_one,bools_len,show Nat.blt i d.length = true from Nat.ble_eq_true_of_le hi,ifB_true,bools_get d i hi]
 rfl
theorem setFrom_one (xs : List LV) (i : Nat) (v : LV) (_h : i < xs.length) : setFrom xs i [v] = xs.set i v := rfl
theorem bools_set (d : List Bool) (i : Nat) (b : Bool) : (bools d).set i (.bool b) = bools (d.set i b) := by simp [bools,List.map_set]
theorem BoolsAt.st {S : List LV} {id : Nat} {d : List Bool} (h : BoolsAt S id d) {i : Nat} (hi : i < d.length) (b : Bool) (K : List LV → Option R) :
  (objAt S id fun ty c => stO c (0 + i * 1) [.bool b] fun c' => setS (S.set id (ty c')) K) = K (S.set id (.obj 4 (bools (d.set i b)))) := by
 rw [at_of h]
 unfold stO
 have hl : i < (bools d).length := by rw [bools_len]; exact hi
 rw [Nat.zero_add,Nat.mul_one,show Nat.ble (i + ([LV.bool b] : List LV).length) (bools d).length = true from Nat.ble_eq_true_of_le hl,ifB_true,setFrom_one _ _ _ hl,bools_set]
 rfl
theorem BoolsAt.set {S : List LV} {id : Nat} {d : List Bool} (h : BoolsAt S id d) (d' : List Bool) : BoolsAt (S.set id (.obj 4 (bools d'))) id d' := has_set h _
def rdyS (need : List Nat) (d : List Bool) : Bool := need.all fun k => d.getD k false
def RowsAt (rows : List LV) (need : List (List Nat)) : Prop := rows.length = need.length ∧ ∀ i,i < need.length → ∀ {R : Type} (K : List LV → Option R),asSl 1 (leaf (rows.getD i .any) 0) K = K (ints (need.getD i []))
def Small (need : List (List Nat)) : Prop := need.length ≤ 500 ∧ ∀ r ∈ need,r.length ≤ 500 ∧ ∀ k ∈ r,k < need.length
theorem Small.get {need : List (List Nat)} (h : Small need) (i : Nat) (hi : i < need.length) : (need.getD i []).length ≤ 500 ∧ ∀ k ∈ need.getD i [],k < need.length :=
 h.2 _ (by rw [List.getD_eq_getElem?_getD,List.getElem?_eq_getElem hi]; exact List.getElem_mem hi)
theorem ref_ready {k : Nat} (hk : Many k) (nd : List Nat) (hn : nd.length ≤ 500) (d : List Bool) (hd : ∀ k ∈ nd,k < d.length) (id : Nat) (S : List LV) (hS : BoolsAt S id d) (K : Bool × Unit → List LV → Option R) :
  G.smithyardref6_ready_osl.fn k (ints nd,(id,0,d.length),()) S K = K (rdyS nd d,()) S := by
 unfold Many at hk
 unfold G.smithyardref6_ready_osl.fn
 refine (rounds_scan0 (fun t => (ints nd,(id,0,d.length),(t : Int),())) S nd.length k (fun t => cond (!(d.getD (nd.getD t 0) false)) (some (K (false,()) S)) none) (K (true,()) S) (fun rec t ht => ?_) (fun rec => ?_) (by omega)).trans ?_
 ·have hlt : nd.getD t 0 < d.length := hd _ (by rw [List.getD_eq_getElem?_getD,List.getElem?_eq_getElem ht]; exact List.getElem_mem ht)
  unfold G.smithyardref6_ready_osl.b0
  dsimp only
  rw [ints_len,lt_nat,ifB_pos ht,idxL_nat (by rw [ints_len]; exact ht),ints_get nd t ht,leaf_int,idxN_nat hlt,hS.ld hlt,wrap_succ (by omega)]
  cases d.getD (nd.getD t 0) false <;> rfl
 ·unfold G.smithyardref6_ready_osl.b0
  dsimp only
  rw [ints_len,lt_nat,ifB_neg (Nat.lt_irrefl _)]
 ·rw [scan_first0 0 (fun j => !(d.getD j false))]
  unfold rdyS
  rw [List.all_eq_not_any_not]
  cases nd.any fun j => !(d.getD j false) <;> rfl
def goodAt (need : List (List Nat)) (inn d : List Bool) (i : Nat) : Bool := inn.getD i false && !(d.getD i false) && rdyS (need.getD i []) d
def leftAt (inn d : List Bool) (i : Nat) : Bool := inn.getD i false && !(d.getD i false)
abbrev OrdT := List LV × List LV × (Nat × Nat × Nat) × List LV × Int × Bool × Unit
theorem next_rounds {k : Nat} (hk : Many k) (rows : List LV) (need : List (List Nat)) (hr : RowsAt rows need) (hs : Small need) (inn d : List Bool) (hi : inn.length = need.length) (hd : d.length = need.length) (id : Nat) (out : List LV) (S : List LV) (hS : BoolsAt S id d) (J : OrdT → List LV → Option R) :
  ∀ (c i fuel : Nat),i + c = need.length → c + 1 < fuel →
   rounds (G.smithyardref6_ordered.b1 k J) fuel (rows,bools inn,(id,0,need.length),out,-1,(List.range i).any (leftAt inn d),(i : Int),()) S =
    match (List.range' i c).find? (goodAt need inn d) with
    | some j => J (rows,bools inn,(id,0,need.length),out,(j : Int),true,()) S
    | none => J (rows,bools inn,(id,0,need.length),out,-1,(List.range need.length).any (leftAt inn d),()) S
 | 0,i,fuel,hc,hf => by
  obtain ⟨m,rfl⟩ : ∃ m,fuel = m + 1 := ⟨fuel - 1,by omega⟩
  have : i = need.length := by omega
  subst this
  rw [rounds_succ]
  unfold G.smithyardref6_ordered.b1
  dsimp only
  rw [hr.1,lt_nat,ifB_neg (Nat.lt_irrefl _)]
  simp only [List.range'_zero,List.find?_nil]
 | c + 1,i,fuel,hc,hf => by
  obtain ⟨m,rfl⟩ : ∃ m,fuel = m + 2 := ⟨fuel - 2,by omega⟩
  have hlt : i < need.length := by omega
  have hlen := hs.1
  have ih := next_rounds hk rows need hr hs inn d hi hd id out S hS J c (i + 1) (m + 1) (by omega) (by omega)
  rw [List.range_succ,List.any_append] at ih
  simp only [List.any_cons,List.any_nil,Bool.or_false] at ih
  rw [rounds_succ,List.range'_succ,List.find?_cons]
  generalize hrec : rounds (G.smithyardref6_ordered.b1 k J) (m + 1) = rec at ih ⊢
  unfold G.smithyardref6_ordered.b1 G.smithyardref6_ordered.q1 G.smithyardref6_ordered.q0
  dsimp only
  rw [hr.1,lt_nat,ifB_pos hlt,ifB_pos (by decide),idxL_nat (by rw [bools_len,hi]; exact hlt),bools_get inn i (by omega),leaf_bool]
  have hg : goodAt need inn d i = (leftAt inn d i && rdyS (need.getD i []) d) := rfl
  have hl : leftAt inn d i = (inn.getD i false && !(d.getD i false)) := rfl
  rw [hg]
  rw [hl] at ih
  rw [hl]
  generalize inn.getD i false = b1 at ih ⊢
  cases b1 with
  | false =>
   simp only [Bool.false_and,ifB_false,Bool.or_false] at ih ⊢
   rw [wrap_succ (by omega)]
   exact ih
  | true =>
   rw [ifB_true,idxN_nat hlt,hS.ld (by omega)]
   generalize d.getD i false = b2 at ih ⊢
   cases b2 with
   | true =>
    simp only [Bool.not_true,Bool.and_false,Bool.false_and,ifB_false,Bool.or_false] at ih ⊢
    rw [wrap_succ (by omega)]
    exact ih
   | false =>
    simp only [Bool.not_false,Bool.and_true,Bool.true_and,ifB_true,Bool.or_true] at ih ⊢
    rw [idxL_nat (by rw [hr.1]; exact hlt),hr.2 i hlt]
    have hrd := fun K => ref_ready (R := R) hk (need.getD i []) (hs.get i hlt).1 d (fun k hk => by rw [hd]; exact (hs.get i hlt).2 k hk) id S hS K
    rw [hd] at hrd
    rw [hrd]
    dsimp only
    rw [wrap_succ (by omega)]
    cases rdyS (need.getD i []) d with
    | false =>
     rw [ifB_false]
     dsimp only
     exact ih
    | true =>
     rw [ifB_true,← hrec,rounds_succ]
     unfold G.smithyardref6_ordered.b1
     dsimp only
     rw [hr.1,lt_nat]
     cases decide (i + 1 < need.length) with
     | false => rfl
     | true => rw [ifB_true,ifB_neg (by omega)]
def nextS (need : List (List Nat)) (inn d : List Bool) : Option Nat := (List.range need.length).find? (goodAt need inn d)
def ordS (need : List (List Nat)) (inn : List Bool) : Nat → List Bool → List Nat → List Nat × Bool
 | 0,_,out => (out,false)
 | f + 1,d,out => match nextS need inn d with
  | some i => ordS need inn f (d.set i true) (out ++ [i])
  | none => (out,!((List.range need.length).any (leftAt inn d)))
def orderedS (need : List (List Nat)) (inn : List Bool) : List Nat × Bool := ordS need inn (need.length + 1) (List.replicate need.length false) []
theorem nextS_some {need : List (List Nat)} {inn d : List Bool} {i : Nat} (h : nextS need inn d = some i) : i < need.length ∧ goodAt need inn d i = true :=
 ⟨List.mem_range.1 (List.mem_of_find?_eq_some h),List.find?_some h⟩
theorem count_set {d : List Bool} {i : Nat} (hi : i < d.length) (h : d.getD i false = false) : (d.set i true).count false + 1 = d.count false := by
 induction d generalizing i with
 | nil => simp at hi
 | cons b d ih =>
  cases i with
  | zero =>
   have : b = false := h
   subst this
   simp
  | succ i =>
   have := ih (i := i) (by simpa using hi) h
   simp only [List.set_cons_succ,List.count_cons]
   omega
theorem ord_rounds {k : Nat} (hk : Many k) (rows : List LV) (need : List (List Nat)) (hr : RowsAt rows need) (hs : Small need) (inn : List Bool) (hi : inn.length = need.length) (id : Nat) :
  ∀ (f : Nat) (d : List Bool) (out : List Nat) (fuel : Nat) (S : List LV),d.length = need.length → d.count false < f → out.length + d.count false ≤ need.length → f ≤ fuel → BoolsAt S id d →
   ∃ S',Keeps S S' [id] ∧ ∀ Jr : List LV × Bool × Unit → List LV → Option R,
    rounds (G.smithyardref6_ordered.b0 k Jr) fuel (rows,bools inn,(id,0,need.length),ints out,()) S = Jr (ints (ordS need inn f d out).1,(ordS need inn f d out).2,()) S'
 | 0,d,out,fuel,S,hd,hf,ho,hfu,hS => absurd hf (by omega)
 | f + 1,d,out,fuel,S,hd,hf,ho,hfu,hS => by
  obtain ⟨m,rfl⟩ : ∃ m,fuel = m + 1 := ⟨fuel - 1,by omega⟩
  have hk' := hk
  unfold Many at hk'
  have hlen := hs.1
  have hnx := fun J => next_rounds (R := R) hk rows need hr hs inn d hi hd id (ints out) S hS J need.length 0 k (by omega) (by omega)
  rw [← List.range_eq_range'] at hnx
  unfold ordS
  cases hn : nextS need inn d with
  | none =>
   refine ⟨S,Keeps.refl _ _,fun Jr => ?_⟩
   rw [rounds_succ]
   unfold G.smithyardref6_ordered.b0
   refine (hnx _).trans ?_
   unfold nextS at hn
   rw [hn]
   dsimp only
   rw [ifB_pos (by decide)]
  | some i =>
   obtain ⟨hil,hg⟩ := nextS_some hn
   have hdf : d.getD i false = false := by
    unfold goodAt at hg
    simp only [Bool.and_eq_true,Bool.not_eq_true'] at hg
    exact hg.1.2
   have hc := count_set (d := d) (by omega) hdf
   obtain ⟨S',h1,h2⟩ := ord_rounds hk rows need hr hs inn hi id f (d.set i true) (out ++ [i]) m (S.set id (.obj 4 (bools (d.set i true)))) (by simp [hd]) (by omega) (by simp; omega) (by omega) (hS.set _)
   refine ⟨S',(Keeps.set _ _ _).trans h1,fun Jr => ?_⟩
   rw [rounds_succ]
   unfold G.smithyardref6_ordered.b0
   refine (hnx _).trans ?_
   unfold nextS at hn
   rw [hn]
   dsimp only
   rw [ifB_neg (by omega),idxN_nat hil,hS.st (by omega),app_one (by rw [ints_len]; omega) (by rw [ints_len]; omega),ints_snoc]
   exact h2 Jr
theorem ints_noId (n : Nat) (l : List Nat) : (ints l).all (noId n) = true := by
 unfold ints
 rw [List.all_map,List.all_eq_true]
 intro x _
 cases n <;> rfl
theorem ref_ordered {k : Nat} (hk : Many k) (rows : List LV) (need : List (List Nat)) (hr : RowsAt rows need) (hs : Small need) (inn : List Bool) (hi : inn.length = need.length) (S : List LV) (K : List LV × Bool × Unit → List LV → Option R) :
  G.smithyardref6_ordered.fn k (rows,bools inn,()) S K = K (ints (orderedS need inn).1,(orderedS need inn).2,()) S := by
 have hk' := hk
 unfold Many at hk'
 have hlen := hs.1
 obtain ⟨S',h1,h2⟩ := ord_rounds (R := LV × List LV) hk rows need hr hs inn hi S.length (need.length + 1) (List.replicate need.length false) [] k (S ++ [.obj 4 (bools (List.replicate need.length false))]) (by simp) (by simp [List.count_replicate]) (by simp [List.count_replicate]) (by omega) (by unfold BoolsAt; exact get_end _ _)
 have h3 : Keeps S S' [] := (((Keeps.app S [.obj 4 (bools (List.replicate need.length false))] [S.length]).trans h1).weak (fun m hm => by simp at hm; omega))
 obtain ⟨G',hG⟩ := h3.grown
 unfold G.smithyardref6_ordered.fn
 refine popK_at (rs := G.smithyardref6_ordered.rs) (r := ((ints (orderedS need inn).1,(orderedS need inn).2,()) : List LV × Bool × Unit)) (G := G') ?_ ?_
 ·unfold G.smithyardref6_ordered.fn0
  dsimp only
  rw [hr.1,ifB_pos rfl,mkN_nat (by omega) _ (by omega)]
  unfold newObj
  dsimp only
  rw [zeros_bool,← hG]
  exact h2 _
 ·show ([LV.own 3 1 (ints (orderedS need inn).1),.bool (orderedS need inn).2].all (noId 5)) = true
  have h : noId 5 (LV.own 3 1 (ints (orderedS need inn).1)) = true := ints_noId 4 _
  rw [List.all_cons,h]; rfl
end
end Go.Lm
set_option maxRecDepth 100000
namespace Go.Lm
section
variable {R : Type}
def usesS (l : List Rule) (i k : Nat) : Bool := (l.getD k .zero).act.outs.any fun q => isIn (l.getD i .zero).ins q
def needsTo (l : List Rule) (i t : Nat) : List Nat := (List.range t).filter (usesS l i)
def needsS (l : List Rule) (i : Nat) : List Nat := needsTo l i l.length
def needsAll (l : List Rule) : List (List Nat) := (List.range l.length).map (needsS l)
def rowR (l : List Nat) : LV := match l with
 | [] => .nilsl
 | l => .own 3 1 (ints l)
theorem rowR_own (l : List Nat) (K : List LV → Option R) : asOwn 3 1 (rowR l) K = K (ints l) := by
 cases l <;> rfl
theorem rowR_snoc (l : List Nat) (n : Nat) : LV.own 3 1 (ints (l ++ [n])) = rowR (l ++ [n]) := by
 cases l <;> rfl
def RowsObj (S : List LV) (id n : Nat) (f : Nat → List Nat) : Prop := S.getD id .any = .obj 45 ((List.range n).map fun i => rowR (f i))
theorem set_range {n i : Nat} (g : Nat → LV) (v : LV) : ((List.range n).map g).set i v = (List.range n).map fun j => cond (j == i) v (g j) := by
 apply List.ext_getElem?
 intro j
 rw [List.getElem?_set,List.getElem?_map,List.getElem?_map]
 rcases Nat.lt_or_ge j n with h | h
 ·rw [List.getElem?_range h]
  by_cases e : i = j
  ·subst e; simp [h]
  ·simp [e,show (j == i) = false by simp; omega]
 ·have : (List.range n)[j]? = none := by simp [h]
  rw [this]
  by_cases e : i = j
  ·subst e; simp; omega
  ·simp [e]
theorem needsTo_succ (l : List Rule) (i t : Nat) : needsTo l i (t + 1) = cond (usesS l i t) (needsTo l i t ++ [t]) (needsTo l i t) := by
 unfold needsTo
 rw [List.range_succ,List.filter_append,List.filter_cons]
 cases usesS l i t <;> simp
theorem needsTo_len (l : List Rule) (i t : Nat) : (needsTo l i t).length ≤ t := by
 have := List.length_filter_le (usesS l i) (List.range t)
 rw [List.length_range] at this
 exact this
abbrev NdT := List LV × (Nat × Nat × Nat) × Int × Int × Bool × Unit
theorem nd_b2 {k : Nat} (hk : Many k) (l : List Rule) (ok : RulesOk l) (ids : Nat × Nat × Nat) (i t : Nat) (hi : i < l.length) (ht : t < l.length) (S : List LV) (J : NdT → List LV → Option R) :
  rounds (G.smithyardref6_needs.b2 k J) k (l.map Rule.lv,ids,(i : Int),(t : Int),false,0,()) S = J (l.map Rule.lv,ids,(i : Int),(t : Int),usesS l i t,()) S := by
 have hk' := hk
 unfold Many at hk'
 have hm := rule_mem l t ht
 have hmi := rule_mem l i hi
 have hon := ok.on _ hm
 have hin := (ok.r _ hmi).ins
 unfold usesS
 generalize hr : l.getD t .zero = r at *
 generalize hri : l.getD i .zero = ri at *
 have hget : ∀ (K : LV → Option R),idxL (l.map Rule.lv) (t : Int) K = K r.lv := fun K => by rw [idxL_nat (by simpa using ht),rule_get l t ht,hr]
 have hgeti : ∀ (K : LV → Option R),idxL (l.map Rule.lv) (i : Int) K = K ri.lv := fun K => by rw [idxL_nat (by simpa using hi),rule_get l i hi,hri]
 refine (rounds_scan0 (fun j => (l.map Rule.lv,ids,(i : Int),(t : Int),(r.act.outs.take j).any (fun q => isIn ri.ins q),(j : Int),())) S r.act.outs.length k (fun _ => none) (J (l.map Rule.lv,ids,(i : Int),(t : Int),r.act.outs.any (fun q => isIn ri.ins q),()) S) (fun rec j hj => ?_) (fun rec => ?_) (by omega)).trans (scan_none _ _ (fun _ _ _ => rfl))
 ·unfold G.smithyardref6_needs.b2 G.smithyardref6_needs.q0
  dsimp only
  rw [hget,rule_outs,List.length_map,lt_nat,ifB_pos hj,any_take _ _ (bs []) j hj,wrap_succ (by omega)]
  cases (r.act.outs.take j).any fun q => isIn ri.ins q with
  | true => rfl
  | false =>
   rw [ifB_false,hgeti,rule_ins,hget,rule_outs,idxL_nat (by simpa using hj),map_str_get _ j hj,asLeaf_str,ref_has hk _ hin,Bool.false_or]
 ·unfold G.smithyardref6_needs.b2
  dsimp only
  rw [hget,rule_outs,List.length_map,lt_nat,ifB_neg (Nat.lt_irrefl _),List.take_length]
theorem nd_b1 {k : Nat} (hk : Many k) (l : List Rule) (ok : RulesOk l) (hn : l.length ≤ 500) (id i : Nat) (hi : i < l.length) (f : Nat → List Nat) (S : List LV) (hS : RowsObj S id l.length f) (hf : f i = []) :
  ∃ S',(RowsObj S' id l.length (fun j => cond (j == i) (needsS l i) (f j)) ∧ Keeps S S' [id]) ∧ ∀ J : List LV × (Nat × Nat × Nat) × Int × Unit → List LV → Option R,
   rounds (G.smithyardref6_needs.b1 k J) k (l.map Rule.lv,(id,0,l.length),(i : Int),0,()) S = J (l.map Rule.lv,(id,0,l.length),(i : Int),()) S' := by
 have hk' := hk
 unfold Many at hk'
 refine loop_all (R := R) (b := fun J => G.smithyardref6_needs.b1 k J) (x := fun t => (l.map Rule.lv,(id,0,l.length),(i : Int),(t : Int),())) (n := l.length)
  (Inv := fun t S1 => RowsObj S1 id l.length (fun j => cond (j == i) (needsTo l i t) (f j)) ∧ Keeps S S1 [id])
  (out := fun (J : List LV × (Nat × Nat × Nat) × Int × Unit → List LV → Option R) S' => J (l.map Rule.lv,(id,0,l.length),(i : Int),()) S')
  (fun t S1 ht hI => ?_) (fun J rec S1 hI => ?_) k (by omega) S ⟨?_,Keeps.refl _ _⟩
 ·obtain ⟨h1,h2⟩ := hI
  cases hu : usesS l i t with
  | false =>
   refine ⟨S1,⟨?_,h2⟩,fun J rec => ?_⟩
   ·rw [needsTo_succ,hu]; exact h1
   ·unfold G.smithyardref6_needs.b1 G.smithyardref6_needs.q1
    dsimp only
    rw [List.length_map,lt_nat,ifB_pos ht,nd_b2 hk l ok _ i t hi ht,hu,wrap_succ (by omega)]
    rfl
  | true =>
   have h1' : S1.getD id .any = .obj 45 ((List.range l.length).map fun j => rowR (cond (j == i) (needsTo l i t) (f j))) := h1
   have hlen : ∀ g : Nat → LV,((List.range l.length).map g).length = l.length := fun g => by simp
   have hget : ∀ g : Nat → LV,((List.range l.length).map g).getD i .any = g i := fun g => by simp [List.getD_eq_getElem?_getD,hi]
   have hnl := needsTo_len l i t
   refine ⟨S1.set id (.obj 45 (((List.range l.length).map fun j => rowR (cond (j == i) (needsTo l i t) (f j))).set i (.own 3 1 (ints (needsTo l i t ++ [t]))))),⟨?_,?_⟩,fun J rec => ?_⟩
   rotate_left 2
   ·unfold G.smithyardref6_needs.b1 G.smithyardref6_needs.q1
    dsimp only
    rw [List.length_map,lt_nat,ifB_pos ht,nd_b2 hk l ok _ i t hi ht,hu]
    dsimp only
    rw [ifB_true,idxN_nat hi,at_of h1',Nat.zero_add,Nat.mul_one,hget]
    rw [beq_self_eq_true,cond_true,rowR_own,setS_of,app_one (by rw [ints_len]; omega) (by rw [ints_len]; omega),ints_snoc,idxN_nat hi,at_of (has_set h1' _)]
    unfold stO
    rw [Nat.zero_add,Nat.mul_one,show Nat.ble (i + ([LV.own 3 1 (ints (needsTo l i t ++ [t]))] : List LV).length) (((List.range l.length).map fun j => rowR (cond (j == i) (needsTo l i t) (f j))).set i (.sl 1 (ints (needsTo l i t)))).length = true from Nat.ble_eq_true_of_le (by simp; omega),ifB_true]
    dsimp only
    rw [setS_of,setFrom_one _ _ _ (by simp; omega),List.set_set,List.set_set,wrap_succ (by omega)]
   ·unfold RowsObj
    rw [has_set h1',set_range]
    congr 2
    funext j
    dsimp only
    rw [needsTo_succ,hu,cond_true]
    cases j == i with
    | true => exact rowR_snoc _ _
    | false => rfl
   ·exact h2.trans (Keeps.set _ _ _)
 ·unfold G.smithyardref6_needs.b1
  dsimp only
  rw [List.length_map,lt_nat,ifB_neg (Nat.lt_irrefl _)]
 ·unfold RowsObj at hS ⊢
  rw [hS]
  congr 2
  funext j
  dsimp only
  by_cases e : j = i
  ·subst e; rw [beq_self_eq_true,hf]; rfl
  ·rw [show (j == i) = false by simpa using e]; rfl
theorem rows_at (f : Nat → List Nat) (n : Nat) : RowsAt (((List.range n).map fun i => rowR (f i)).map dupL) ((List.range n).map f) := by
 refine ⟨by simp,fun i hi R K => ?_⟩
 have hi' : i < n := by simpa using hi
 have e1 : (((List.range n).map fun i => rowR (f i)).map dupL).getD i .any = dupL (rowR (f i)) := by simp [List.getD_eq_getElem?_getD,hi']
 have e2 : ((List.range n).map f).getD i [] = f i := by simp [List.getD_eq_getElem?_getD,hi']
 rw [e1,e2]
 cases f i with
 | nil => rfl
 | cons a l => exact asSl_sl 1 _ K
def refRows (l : List Rule) : List LV := ((List.range l.length).map fun i => rowR (needsS l i)).map dupL
theorem refRows_at (l : List Rule) : RowsAt (refRows l) (needsAll l) := rows_at (needsS l) l.length
theorem needs_small (l : List Rule) (hn : l.length ≤ 500) : Small (needsAll l) := by
 refine ⟨by simp [needsAll,hn],fun r hr => ?_⟩
 unfold needsAll at hr
 obtain ⟨i,hi,rfl⟩ := List.mem_map.1 hr
 have := needsTo_len l i l.length
 refine ⟨by unfold needsS; omega,fun k hk => ?_⟩
 unfold needsS needsTo at hk
 have := List.mem_range.1 (List.mem_filter.1 hk).1
 simpa [needsAll] using this
theorem needsAll_len (l : List Rule) : (needsAll l).length = l.length := by simp [needsAll]
theorem chunks_one (n : Nat) (xs : List LV) : chunks 1 n xs = xs.map dupL := rfl
theorem ref_needs {k : Nat} (hk : Many k) (l : List Rule) (ok : RulesOk l) (hn : l.length ≤ 500) (S : List LV) (K : List LV × Unit → List LV → Option R) : G.smithyardref6_needs.fn k (l.map Rule.lv,()) S K = K (refRows l,()) S := by
 have hk' := hk
 unfold Many at hk'
 have hS0 : RowsObj (S ++ [.obj 45 (zeros l.length [.nilsl])]) S.length l.length (fun _ => []) := by
  unfold RowsObj
  rw [get_end,zeros_nil]
  congr 1
  show _ = (List.range l.length).map fun _ => LV.nilsl
  rw [List.map_const']
  simp
 have hl := loop_all (R := LV × List LV) (b := fun J => G.smithyardref6_needs.b0 k J) (x := fun t => (l.map Rule.lv,(S.length,0,l.length),(t : Int),())) (n := l.length)
  (Inv := fun t S1 => RowsObj S1 S.length l.length (fun j => cond (decide (j < t)) (needsS l j) []) ∧ Keeps (S ++ [.obj 45 (zeros l.length [.nilsl])]) S1 [S.length])
  (out := fun (J : (Nat × Nat × Nat) × Unit → List LV → Option (LV × List LV)) S' => J ((S.length,0,l.length),()) S')
  (fun t S1 ht hI => ?_) (fun J rec S1 hI => ?_) k (by omega) _ ⟨?_,Keeps.refl _ _⟩
 ·obtain ⟨S',⟨h1,h2⟩,h3⟩ := hl
  have h1' := h1
  unfold RowsObj at h1'
  have hrow : ((List.range l.length).map fun j => rowR (cond (decide (j < l.length)) (needsS l j) [])) = (List.range l.length).map fun j => rowR (needsS l j) := by
   apply List.map_congr_left
   intro j hj
   rw [decide_eq_true (List.mem_range.1 hj)]; rfl
  rw [hrow] at h1'
  have h4 : Keeps S (S'.set S.length .any) [] := (((Keeps.app S [.obj 45 (zeros l.length [.nilsl])] [S.length]).trans h2).trans (Keeps.set _ _ _)).weak (fun m hm => by simp at hm; omega)
  obtain ⟨G',hG⟩ := h4.grown
  unfold G.smithyardref6_needs.fn
  refine popK_at (rs := G.smithyardref6_needs.rs) (r := ((refRows l,()) : List LV × Unit)) (G := G') ?_ ?_
  ·unfold G.smithyardref6_needs.fn0
   dsimp only
   rw [List.length_map,ifB_pos rfl,mkN_nat (by omega) _ (by omega)]
   unfold newObj
   dsimp only
   refine (h3 _).trans ?_
   dsimp only
   rw [at_of h1']
   have e : (Nat.beq 0 0 && Nat.beq (l.length * 1) ((List.range l.length).map fun j => rowR (needsS l j)).length && Nat.blt 0 1 && Nat.ble l.length 9223372036854775807) = true := by
    rw [List.length_map,List.length_range,Nat.mul_one,Nat.beq_refl,Nat.beq_refl,Nat.ble_eq_true_of_le (show l.length ≤ 9223372036854775807 by omega)]; rfl
   rw [e,ifB_true,setS_of,← hG]
   rfl
  ·show ((refRows l).all (noId 5)) = true
   unfold refRows
   rw [List.map_map,List.all_map,List.all_eq_true]
   intro i _
   show noId 5 (dupL (rowR (needsS l i))) = true
   cases needsS l i with
   | nil => rfl
   | cons a r => exact ints_noId 4 (a :: r)
 ·obtain ⟨h1,h2⟩ := hI
  obtain ⟨S2,⟨h3,h4⟩,h5⟩ := nd_b1 (R := LV × List LV) hk l ok hn S.length t ht _ S1 h1 (by simp)
  refine ⟨S2,⟨?_,h2.trans h4⟩,fun J rec => ?_⟩
  ·unfold RowsObj at h3 ⊢
   rw [h3]
   congr 2
   funext j
   dsimp only
   by_cases e : j = t
   ·subst e; simp
   ·rw [show (j == t) = false by simpa using e]
    by_cases e2 : j < t
    ·simp [e2,show j < t + 1 by omega]
    ·simp [e2,show ¬ j < t + 1 by omega]
  ·unfold G.smithyardref6_needs.b0
   dsimp only
   rw [List.length_map,lt_nat,ifB_pos ht]
   refine (h5 _).trans ?_
   dsimp only
   rw [wrap_succ (by omega)]
 ·unfold G.smithyardref6_needs.b0
  dsimp only
  rw [List.length_map,lt_nat,ifB_neg (Nat.lt_irrefl _)]
 ·unfold RowsObj at hS0 ⊢
  rw [hS0]
  congr 2
end
end Go.Lm
set_option maxRecDepth 100000
namespace Go.Lm
section
variable {R : Type}
theorem bools_dup (d : List Bool) : (bools d).map dupL = bools d := by
 unfold bools
 rw [List.map_map]
 rfl
theorem bools_noId (n : Nat) (l : List Bool) : (bools l).all (noId n) = true := by
 unfold bools
 rw [List.all_map,List.all_eq_true]
 intro x _
 cases n <;> rfl
def trueTo (n t : Nat) : List Bool := (List.range n).map fun j => decide (j < t)
theorem trueTo_set (n t : Nat) : (trueTo n t).set t true = trueTo n (t + 1) := by
 unfold trueTo
 apply List.ext_getElem?
 intro j
 rw [List.getElem?_set,List.getElem?_map,List.getElem?_map]
 rcases Nat.lt_or_ge j n with h | h
 ·rw [List.getElem?_range h]
  by_cases e : t = j
  ·subst e; simp [h]
  ·simp [e]; omega
 ·have : (List.range n)[j]? = none := by simp [h]
  rw [this]
  by_cases e : t = j
  ·subst e; simp; omega
  ·simp [e]
theorem trueTo_all (n : Nat) : trueTo n n = List.replicate n true := by
 unfold trueTo
 apply List.ext_getElem (by simp)
 intro i h1 h2
 simp at h1 ⊢
 exact h1
theorem trueTo_zero (n : Nat) : trueTo n 0 = List.replicate n false := by
 unfold trueTo
 apply List.ext_getElem (by simp)
 intro i h1 h2
 simp
theorem trueTo_len (n t : Nat) : (trueTo n t).length = n := by simp [trueTo]
theorem ref_all {k : Nat} (hk : Many k) (n : Nat) (hn : n ≤ 500) (S : List LV) (K : List LV × Unit → List LV → Option R) : G.smithyardref6_all.fn k ((n : Int),()) S K = K (bools (List.replicate n true),()) S := by
 have hk' := hk
 unfold Many at hk'
 have hl := loop_all (R := LV × List LV) (b := fun J => G.smithyardref6_all.b0 k J) (x := fun t => ((n : Int),(S.length,0,n),(t : Int),())) (n := n)
  (Inv := fun t S1 => BoolsAt S1 S.length (trueTo n t) ∧ Keeps (S ++ [.obj 4 (zeros n [.bool false])]) S1 [S.length])
  (out := fun (J : (Nat × Nat × Nat) × Unit → List LV → Option (LV × List LV)) S' => J ((S.length,0,n),()) S')
  (fun t S1 ht hI => ?_) (fun J rec S1 hI => ?_) k (by omega) _ ⟨?_,Keeps.refl _ _⟩
 ·obtain ⟨S',⟨h1,h2⟩,h3⟩ := hl
  rw [trueTo_all] at h1
  have h4 : Keeps S (S'.set S.length .any) [] := (((Keeps.app S [.obj 4 (zeros n [.bool false])] [S.length]).trans h2).trans (Keeps.set _ _ _)).weak (fun m hm => by simp at hm; omega)
  obtain ⟨G',hG⟩ := h4.grown
  unfold G.smithyardref6_all.fn
  refine popK_at (rs := G.smithyardref6_all.rs) (r := ((bools (List.replicate n true),()) : List LV × Unit)) (G := G') ?_ (bools_noId 5 _)
  unfold G.smithyardref6_all.fn0
  dsimp only
  rw [ifB_pos rfl,mkN_nat (by omega) _ (by omega)]
  unfold newObj
  dsimp only
  refine (h3 _).trans ?_
  dsimp only
  rw [at_of h1]
  have e : (Nat.beq 0 0 && Nat.beq (n * 1) (bools (List.replicate n true)).length && Nat.blt 0 1 && Nat.ble n 9223372036854775807) = true := by
   rw [bools_len,List.length_replicate,Nat.mul_one,Nat.beq_refl,Nat.beq_refl,Nat.ble_eq_true_of_le (show n ≤ 9223372036854775807 by omega)]; rfl
  rw [e,ifB_true,setS_of,← hG,chunks_one,bools_dup]
 ·obtain ⟨h1,h2⟩ := hI
  refine ⟨_,⟨h1.set (trueTo n (t + 1)),h2.trans (Keeps.set _ _ _)⟩,fun J rec => ?_⟩
  unfold G.smithyardref6_all.b0
  dsimp only
  rw [lt_nat,ifB_pos ht,idxN_nat ht,h1.st (by rw [trueTo_len]; exact ht),trueTo_set,wrap_succ (by omega)]
 ·unfold G.smithyardref6_all.b0
  dsimp only
  rw [lt_nat,ifB_neg (Nat.lt_irrefl _)]
 ·rw [trueTo_zero]
  unfold BoolsAt
  rw [get_end,zeros_bool]
def loopS (l : List Rule) : Int := cond (orderedS (needsAll l) (List.replicate l.length true)).2 0 17
def checkRulesS (l : List Rule) : Int := cond (decide (l.length > 500)) 2 ((firstE (nameE l) l.length).getD ((allOutE l).getD (loopS l)))
theorem outE_pos (l : List Rule) (i : Nat) (p : ByteArray) (e : Int) (h : outE l i p = some e) : e ≠ 0 := by
 unfold outE at h
 cases h1 : outsIn (l.take i) p <;> rw [h1] at h
 ·cases h2 : refClash l i p <;> rw [h2] at h
  ·cases h
  ·cases h; decide
 ·cases h; decide
theorem str_mem (l : List ByteArray) (j : Nat) (h : j < l.length) : l.getD j (bs []) ∈ l := by
 rw [List.getD_eq_getElem?_getD,List.getElem?_eq_getElem h]; exact List.getElem_mem h
theorem cr_b2 {k : Nat} (hk : Many k) (l : List Rule) (ok : RulesOk l) (hn : l.length ≤ 500) (i : Nat) (hi : i < l.length) (S : List LV) (J : List LV × Int × Unit → List LV → Option R) (Jr : Int × Unit → List LV → Option R) :
  rounds (G.smithyardref6_CheckRules.b2 k J Jr) k (l.map Rule.lv,(i : Int),0,()) S = ((ruleOutE l i).map fun e => Jr (e,()) S).getD (J (l.map Rule.lv,(i : Int),()) S) := by
 have hk' := hk
 unfold Many at hk'
 have hm := rule_mem l i hi
 have hon := ok.on _ hm
 unfold ruleOutE
 rw [← scan_scanE]
 refine rounds_scan0 (fun j => (l.map Rule.lv,(i : Int),(j : Int),())) S (l.getD i .zero).act.outs.length k _ _ (fun rec j hj => ?_) (fun rec => ?_) (by omega)
 ·unfold G.smithyardref6_CheckRules.b2
  dsimp only
  have hp : (outAt l i j).size ≤ 140737488355328 := (ok.r _ hm).act.outs _ (str_mem _ j hj)
  rw [idxL_nat (by simpa using hi),rule_get l i hi,rule_outs,List.length_map,lt_nat,ifB_pos hj,idxL_nat (by simpa using hi),rule_get l i hi,rule_outs,idxL_nat (by simpa using hj),map_str_get _ j hj,asLeaf_str]
  rw [show (l.getD i .zero).act.outs.getD j (bs []) = outAt l i j from rfl,ref_checkOutput hk l ok i hi _ hp,wrap_succ (by omega)]
  cases h : outE l i (outAt l i j) with
  | none => rfl
  | some e =>
   have := outE_pos l i _ e h
   simp only [Option.getD_some,Option.map_some]
   rw [show (e != 0) = true by simpa using this,ifB_true]
 ·unfold G.smithyardref6_CheckRules.b2
  dsimp only
  rw [idxL_nat (by simpa using hi),rule_get l i hi,rule_outs,List.length_map,lt_nat,ifB_neg (Nat.lt_irrefl _)]
theorem cr_b1 {k : Nat} (hk : Many k) (l : List Rule) (ok : RulesOk l) (hn : l.length ≤ 500) (S : List LV) (J : List LV × Unit → List LV → Option R) (Jr : Int × Unit → List LV → Option R) :
  rounds (G.smithyardref6_CheckRules.b1 k J Jr) k (l.map Rule.lv,0,()) S = ((allOutE l).map fun e => Jr (e,()) S).getD (J (l.map Rule.lv,()) S) := by
 have hk' := hk
 unfold Many at hk'
 unfold allOutE
 rw [← scan_scanE]
 refine rounds_scan0 (fun i => (l.map Rule.lv,(i : Int),())) S l.length k _ _ (fun rec i hi => ?_) (fun rec => ?_) (by omega)
 ·unfold G.smithyardref6_CheckRules.b1
  dsimp only
  rw [List.length_map,lt_nat,ifB_pos hi]
  refine (cr_b2 hk l ok hn i hi S _ _).trans ?_
  rw [wrap_succ (by omega)]
  cases ruleOutE l i <;> rfl
 ·unfold G.smithyardref6_CheckRules.b1
  dsimp only
  rw [List.length_map,lt_nat,ifB_neg (Nat.lt_irrefl _)]
theorem name_prev (l : List Rule) (i : Nat) (hi : i < l.length) (hl : l.length ≤ 500) (s : ByteArray) (a : Option R) (J : Option R) :
  ifB (decide ((i : Int) > 0)) (idxL (l.map Rule.lv) (IntKind.wrap .i64 ((i : Int) - 1)) fun v => asStr (leaf v 0) fun t => ifB (strLt s t || strEq s t) a J) J =
   cond (decide (0 < i) && (strLt s (ruleName l (i - 1)) || strEq s (ruleName l (i - 1)))) a J := by
 by_cases h0 : 0 < i
 ·rw [ifB_pos (show (i : Int) > 0 by omega),decide_eq_true h0,wrap_pred h0 (by omega),idxL_nat (by simp; omega),rule_get l _ (by omega),rule_name,Bool.true_and]
  unfold ruleName
  cases (strLt s (l.getD (i - 1) .zero).name || strEq s (l.getD (i - 1) .zero).name) <;> rfl
 ·rw [ifB_neg (show ¬ (i : Int) > 0 by omega),decide_eq_false h0]; rfl
theorem cr_b0 {k : Nat} (hk : Many k) (l : List Rule) (ok : RulesOk l) (hn : l.length ≤ 500) (S : List LV) (J : List LV × Unit → List LV → Option R) (Jr : Int × Unit → List LV → Option R) :
  rounds (G.smithyardref6_CheckRules.b0 k J Jr) k (l.map Rule.lv,0,()) S = ((firstE (nameE l) l.length).map fun e => Jr (e,()) S).getD (J (l.map Rule.lv,()) S) := by
 have hk' := hk
 unfold Many at hk'
 unfold firstE
 rw [← scan_firstE]
 refine rounds_scan0 (fun i => (l.map Rule.lv,(i : Int),())) S l.length k _ _ (fun rec i hi => ?_) (fun rec => ?_) (by omega)
 ·have hget : ∀ (K : LV → Option R),idxL (l.map Rule.lv) (i : Int) K = K (l.getD i .zero).lv := fun K => by rw [idxL_nat (by simpa using hi),rule_get l i hi]
  unfold G.smithyardref6_CheckRules.b0 G.smithyardref6_CheckRules.q0
  dsimp only
  rw [List.length_map,lt_nat,ifB_pos hi,hget,Rule.mat,rule_cells]
  refine (ref_checkRule hk _ (ok.r _ (rule_mem l i hi)) S _).trans ?_
  dsimp only
  simp only [hget,rule_name,name_prev l i hi hn,wrap_succ (show i < 9223372036854775807 by omega)]
  unfold nameE
  rw [ne0,show (l.getD i .zero).name = ruleName l i from rfl]
  cases ruleS (l.getD i .zero) == 0 with
  | false => rfl
  | true =>
   generalize (decide (0 < i) && (strLt (ruleName l i) (ruleName l (i - 1)) || strEq (ruleName l i) (ruleName l (i - 1)))) = b
   cases b <;> rfl
 ·unfold G.smithyardref6_CheckRules.b0
  dsimp only
  rw [List.length_map,lt_nat,ifB_neg (Nat.lt_irrefl _)]
theorem ref_CheckRules {k : Nat} (hk : Many k) (l : List Rule) (ok : RulesOk l) (S : List LV) (K : Int × Unit → List LV → Option R) : G.smithyardref6_CheckRules.fn k (l.map Rule.lv,()) S K = K (checkRulesS l,()) S := by
 unfold G.smithyardref6_CheckRules.fn checkRulesS
 dsimp only
 rw [List.length_map,show decide ((l.length : Int) > 500) = decide (l.length > 500) from gt_nat l.length 500]
 by_cases h : l.length > 500
 ·rw [decide_eq_true h]; rfl
 ·have hn : l.length ≤ 500 := by omega
  rw [decide_eq_false h,ifB_false]
  refine (cr_b0 hk l ok hn S _ _).trans ?_
  cases firstE (nameE l) l.length with
  | some e => rfl
  | none =>
   simp only [Option.map_none,Option.getD_none,cond_false]
   refine (cr_b1 hk l ok hn S _ _).trans ?_
   cases allOutE l with
   | some e => rfl
   | none =>
    simp only [Option.map_none,Option.getD_none]
    rw [ref_needs hk l ok hn]
    dsimp only
    rw [List.length_map,ref_all hk l.length hn]
    try dsimp only
    rw [ref_ordered hk (refRows l) (needsAll l) (refRows_at l) (needs_small l hn) _ (by simp [needsAll])]
    dsimp only
    unfold loopS
    cases (orderedS (needsAll l) (List.replicate l.length true)).2 <;> rfl
end
end Go.Lm
set_option maxRecDepth 100000
namespace Go.Lm
section
variable {R : Type}
theorem op_b0 {k : Nat} (hk : Many k) (l : List Rule) (ok : RulesOk l) (hn : l.length ≤ 500) (S : List LV) (J : List LV × Unit → List LV → Option R) (Jr : LV × Int × Unit → List LV → Option R) :
  rounds (G.steps_open.b0 k J Jr) k (l.map Rule.lv,l.map Rule.lv,(l.length : Int),0,()) S = ((firstE (nameE l) l.length).map fun e => Jr (.nilp,e,()) S).getD (J (l.map Rule.lv,()) S) := by
 have hk' := hk
 unfold Many at hk'
 unfold firstE
 rw [← scan_firstE]
 refine rounds_scan0 (fun i => (l.map Rule.lv,l.map Rule.lv,(l.length : Int),(i : Int),())) S l.length k _ _ (fun rec i hi => ?_) (fun rec => ?_) (by omega)
 ·have hget : ∀ (K : LV → Option R),idxL (l.map Rule.lv) (i : Int) K = K (l.getD i .zero).lv := fun K => by rw [idxL_nat (by simpa using hi),rule_get l i hi]
  unfold G.steps_open.b0
  dsimp only
  rw [lt_nat,ifB_pos hi,hget,Rule.mat,rule_cells]
  refine (prog_checkRule hk _ (ok.r _ (rule_mem l i hi)) S _).trans ?_
  dsimp only
  simp only [name_prev l i hi hn,wrap_succ (show i < 9223372036854775807 by omega)]
  unfold nameE
  rw [ne0,show (l.getD i .zero).name = ruleName l i from rfl]
  cases ruleS (l.getD i .zero) == 0 with
  | false => rfl
  | true =>
   generalize (decide (0 < i) && (strLt (ruleName l i) (ruleName l (i - 1)) || strEq (ruleName l i) (ruleName l (i - 1)))) = b
   cases b <;> rfl
 ·unfold G.steps_open.b0
  dsimp only
  rw [lt_nat,ifB_neg (Nat.lt_irrefl _)]
def ofN (l : List Rule) : Nat → ByteArray → Option Nat
 | 0,_ => none
 | i + 1,p => cond (isIn (l.getD i .zero).act.outs p) (some i) (ofN l i p)
def ofTo (l : List Rule) (i j : Nat) (p : ByteArray) : Option Nat := cond (isIn ((l.getD i .zero).act.outs.take j) p) (some i) (ofN l i p)
def ofV (o : Option Nat) : Option LV := o.map fun (k : Nat) => LV.int .i64 (k : Int)
theorem ofN_some (l : List Rule) (p : ByteArray) : ∀ i,i ≤ l.length → (ofN l i p).isSome = outsIn (l.take i) p
 | 0,_ => rfl
 | i + 1,h => by
  have ih := ofN_some l p i (by omega)
  unfold outsIn at ih ⊢
  rw [any_take _ l .zero i (by omega),← ih]
  show (cond (isIn (l.getD i .zero).act.outs p) (some i) (ofN l i p)).isSome = _
  cases isIn (l.getD i .zero).act.outs p <;> simp
structure PlanAt (S : List LV) (id : Nat) (l : List Rule) (f : ByteArray → Option Nat) (deps : LV) : Prop where
 map : ∃ m,IsMap S id m fun p => ofV (f p)
 plan : S.getD (id + 1) .any = .obj 66 [.sl 8 (l.map Rule.lv),.map id,deps]
theorem PlanAt.keeps {S S' : List LV} {id : Nat} {l : List Rule} {f : ByteArray → Option Nat} {deps : LV} {M : List Nat} (h : PlanAt S id l f deps) (hk : Keeps S S' M) (h1 : id ∉ M) (h2 : id + 1 ∉ M) : PlanAt S' id l f deps := by
 obtain ⟨⟨m,hm⟩,hp⟩ := h
 exact ⟨⟨m,hm.keeps hk h1⟩,hk.get hp (by simp) h2⟩
theorem plan_map (l : List LV) (id : Nat) (deps : LV) (K : LV → Option R) : ldRaw [.sl 8 l,.map id,deps] (0 + 1) K = K (.map id) := rfl
theorem asMap_map (id : Nat) (K : Nat → Option R) : asMap (.map id) K = K id := rfl
theorem of_int (o : Option Nat) (K : Int → Option R) : asInt .i64 ((ofV o).getD (.int .i64 0)) K = K ((o.getD 0 : Nat) : Int) := by
 cases o with
 | none => exact asInt_int _ _ _
 | some k => exact asInt_int _ _ _
theorem of_some (o : Option Nat) : (ofV o).isSome = o.isSome := by cases o <;> rfl
structure RulesFit (l : List Rule) : Prop where
 n : l.length ≤ 500
 fit : ∀ r ∈ l,RuleFit r
 dist : ∀ r ∈ l,∀ j,j < r.act.outs.length → isIn (r.act.outs.take j) (r.act.outs.getD j (bs [])) = false
 clash : ∀ i,i < l.length → ∀ j,j < (l.getD i .zero).act.outs.length → refClash l i (outAt l i j) = clashesS l (outAt l i j)
abbrev OpT := List LV × (Nat × Nat) × Ids × List LV × Int × Int × Unit
theorem op_b2 {k : Nat} (hk : Many k) (l : List Rule) (fit : RulesFit l) (id : Nat) (ids : Ids) (hid : ∀ x ∈ idL ids,x ≠ id ∧ x ≠ id + 1) (i : Nat) (hi : i < l.length) (ii : Int) (S : List LV) (hP : PlanAt S id l (ofN l i) .nilsl) (hT : Tang S ids (outsIn l) (insIn l) (overOuts l) (overIns l)) :
  ∃ S',(∀ e,ruleOutE l i = some e → Keeps S S' [id]) ∧ (ruleOutE l i = none → PlanAt S' id l (ofN l (i + 1)) .nilsl ∧ Tang S' ids (outsIn l) (insIn l) (overOuts l) (overIns l) ∧ Keeps S S' [id]) ∧
   ∀ q : (OpT → List LV → Option R) × (LV × Int × Unit → List LV → Option R),rounds (G.steps_open.b2 k q.1 q.2) k (l.map Rule.lv,(id + 1,0),ids,(i : Int),l.map Rule.lv,(l.length : Int),ii,(l.getD i .zero).act.outs.map .str,((l.getD i .zero).act.outs.length : Int),0,()) S =
    (match ruleOutE l i with | some e => q.2 (.nilp,e,()) S' | none => q.1 (l.map Rule.lv,(id + 1,0),ids,l.map Rule.lv,(l.length : Int),ii,()) S') := by
 have hk' := hk
 unfold Many at hk'
 have hm := rule_mem l i hi
 have hon := (fit.fit _ hm).on
 have hl := loop_inv (R := R) (ε := Int) (b := fun (q : (OpT → List LV → Option R) × (LV × Int × Unit → List LV → Option R)) => G.steps_open.b2 k q.1 q.2) (x := fun j => (l.map Rule.lv,(id + 1,0),ids,(i : Int),l.map Rule.lv,(l.length : Int),ii,(l.getD i .zero).act.outs.map LV.str,((l.getD i .zero).act.outs.length : Int),(j : Int),())) (n := (l.getD i .zero).act.outs.length)
  (Inv := fun j S1 => PlanAt S1 id l (ofTo l i j) .nilsl ∧ Tang S1 ids (outsIn l) (insIn l) (overOuts l) (overIns l) ∧ Keeps S S1 [id])
  (PE := fun _ S1 => Keeps S S1 [id]) (e := fun j => outE l i (outAt l i j))
  (out := fun q o S' => match o with | some e => q.2 (.nilp,e,()) S' | none => q.1 (l.map Rule.lv,(id + 1,0),ids,l.map Rule.lv,(l.length : Int),ii,()) S')
  (fun j S1 hj hI => ?_) (fun q rec S1 hI => ?_) (l.getD i .zero).act.outs.length 0 k S (by omega) (by omega) ⟨hP,hT,Keeps.refl _ _⟩
 ·obtain ⟨S',h1,h2,h3⟩ := hl
  refine ⟨S',h1,fun hn => ?_,h3⟩
  obtain ⟨a,b,c⟩ := h2 hn
  refine ⟨?_,b,c⟩
  have : ofTo l i (l.getD i .zero).act.outs.length = ofN l (i + 1) := by
   funext p
   unfold ofTo
   rw [List.take_length]; rfl
  rw [← this]; exact a
 ·obtain ⟨⟨⟨m,hMap⟩,hPl⟩,hT1,hK⟩ := hI
  have hsz : (outAt l i j).size ≤ 300 := (fit.fit _ hm).os _ (str_mem _ j hj)
  have hthere : (ofTo l i j (outAt l i j)).isSome = outsIn (l.take i) (outAt l i j) := by
   unfold ofTo
   rw [show isIn ((l.getD i .zero).act.outs.take j) (outAt l i j) = false from fit.dist _ hm j hj,cond_false,ofN_some l _ i (by omega)]
  have hb : ∀ (q : (OpT → List LV → Option R) × (LV × Int × Unit → List LV → Option R)) rec,G.steps_open.b2 k q.1 q.2 rec (l.map Rule.lv,(id + 1,0),ids,(i : Int),l.map Rule.lv,(l.length : Int),ii,(l.getD i .zero).act.outs.map LV.str,((l.getD i .zero).act.outs.length : Int),(j : Int),()) S1 =
    cond (outsIn (l.take i) (outAt l i j)) (q.2 (.nilp,7,()) S1) (G.steps_tangle_clashes.fn k (ids,outAt l i j,()) (S1.set id (.mp .str (mapPut m (.str (outAt l i j)) (.int .i64 (i : Int))))) fun r39 S => ifB r39.1 (q.2 (.nilp,12,()) S) (rec (l.map Rule.lv,(id + 1,0),ids,(i : Int),l.map Rule.lv,(l.length : Int),ii,(l.getD i .zero).act.outs.map LV.str,((l.getD i .zero).act.outs.length : Int),((j + 1 : Nat) : Int),()) S)) := fun q rec => by
   unfold G.steps_open.b2
   dsimp only
   rw [lt_nat,ifB_pos hj,idxL_nat (by simpa using hj),map_str_get _ j hj,asLeaf_str,show (l.getD i .zero).act.outs.getD j (bs []) = outAt l i j from rfl,at_of hPl,plan_map,asMap_map,hMap.mp,hMap.get,of_int,of_some,hthere]
   cases outsIn (l.take i) (outAt l i j) with
   | true => rfl
   | false =>
    rw [ifB_false,at_of hPl,plan_map,asMap_map,hMap.mp,setS_of,wrap_succ (by omega)]
    rfl
  have hput := hMap.put (outAt l i j) (.int .i64 (i : Int))
  have hK2 : Keeps S1 (S1.set id (.mp .str (mapPut m (.str (outAt l i j)) (.int .i64 (i : Int))))) [id] := Keeps.set _ _ _
  have hT2 : Tang (S1.set id (.mp .str (mapPut m (.str (outAt l i j)) (.int .i64 (i : Int))))) ids (outsIn l) (insIn l) (overOuts l) (overIns l) :=
   ⟨hT1.o.keeps hK2 (by simp; exact (hid _ (by simp [idL])).1),hT1.i.keeps hK2 (by simp; exact (hid _ (by simp [idL])).1),hT1.oo.keeps hK2 (by simp; exact (hid _ (by simp [idL])).1),hT1.oi.keeps hK2 (by simp; exact (hid _ (by simp [idL])).1)⟩
  obtain ⟨S3,hK3,h3⟩ := prog_clash (R := R) hk l ids _ hT2 (outAt l i j) hsz
  have hcl := fit.clash i hi j hj
  constructor
  ·intro e he
   unfold outE at he
   cases ho : outsIn (l.take i) (outAt l i j) with
   | true =>
    rw [ho] at he
    cases he
    exact ⟨S1,hK,fun q rec => by rw [hb,ho]; rfl⟩
   | false =>
    rw [ho,hcl] at he
    cases hc : clashesS l (outAt l i j) with
    | false => rw [hc] at he; cases he
    | true =>
     rw [hc] at he
     cases he
     exact ⟨S3,hK.trans (hK2.trans (hK3.weak (fun m hm => by simp at hm))),fun q rec => by rw [hb,ho,cond_false,h3,hc]; rfl⟩
  ·intro he
   unfold outE at he
   cases ho : outsIn (l.take i) (outAt l i j) with
   | true => rw [ho] at he; cases he
   | false =>
    rw [ho,hcl] at he
    cases hc : clashesS l (outAt l i j) with
    | true => rw [hc] at he; cases he
    | false =>
     refine ⟨S3,⟨⟨⟨mapPut m (.str (outAt l i j)) (.int .i64 (i : Int)),?_⟩,?_⟩,⟨hT2.o.keeps hK3 (by simp),hT2.i.keeps hK3 (by simp),hT2.oo.keeps hK3 (by simp),hT2.oi.keeps hK3 (by simp)⟩,hK.trans (hK2.trans (hK3.weak (fun m hm => by simp at hm)))⟩,fun q rec => by rw [hb,ho,cond_false,h3,hc]; rfl⟩
     ·have h4 := hput.keeps hK3 (by simp)
      refine ⟨h4.at_,h4.keys,fun p => (h4.get p).trans ?_⟩
      unfold ofTo isIn
      rw [any_take _ _ (bs []) j hj,show (l.getD i .zero).act.outs.getD j (bs []) = outAt l i j from rfl]
      by_cases e : outAt l i j = p
      ·simp [e,ofV]
      ·simp [e]
     ·exact hK3.get (hK2.get hPl (by simp) (by simp)) (by simp) (by simp)
 ·unfold G.steps_open.b2
  dsimp only
  rw [lt_nat,ifB_neg (Nat.lt_irrefl _)]
end
end Go.Lm
