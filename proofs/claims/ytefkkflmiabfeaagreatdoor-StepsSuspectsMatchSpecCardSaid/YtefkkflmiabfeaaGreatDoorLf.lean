/- Parts of the proof: LmQ11, LmQ12, LmQ13, LmQ14, LmQ15, LmQ16, LmQ17, LmQ18, LmQ19, LmQ20, LmQ21, LmQ22, LmQ23, LmQ24, LmQ27, LmQ28, LmQ30, LmQ33, LmQ34, LmW. -/
import Derived.Test.YtefkkflmiabfeaaGreatDoorLe
import Derived.Carry
import Derived.SizedLaws
set_option linter.unusedVariables false
set_option linter.unusedSimpArgs false
set_option maxRecDepth 100000
namespace Go.Lm
section
variable {R : Type}
def RisingB (l : List ByteArray) : Prop := ∀ i j,i < j → j < l.length → strLt (l.getD i (bs [])) (l.getD j (bs [])) = true
theorem risingB_of (l : List ByteArray) (h : ∀ i,0 < i → i < l.length → strLt (l.getD (i - 1) (bs [])) (l.getD i (bs [])) = true) : RisingB l := by
 intro i j hij
 induction j with
 | zero => omega
 | succ j ih =>
  intro hj
  have h1 := h (j + 1) (by omega) hj
  rw [Nat.add_sub_cancel] at h1
  rcases Nat.lt_or_ge i j with h2 | h2
  ·exact strLt_trans (ih h2 (by omega)) h1
  ·have : i = j := by omega
   subst this; exact h1
theorem outS_none {l : List ByteArray} {i : Nat} (h : outS l i = none) : isPathS (l.getD i (bs [])) = true ∧ (0 < i → strLt (l.getD (i - 1) (bs [])) (l.getD i (bs [])) = true) := by
 unfold outS at h
 cases hp : isPathS (l.getD i (bs [])) with
 | false => rw [hp] at h; cases h
 | true =>
  rw [hp] at h
  refine ⟨rfl,fun h0 => ?_⟩
  rw [decide_eq_true h0,Bool.true_and] at h
  cases hb : strLt (l.getD i (bs [])) (l.getD (i - 1) (bs [])) || strEq (l.getD i (bs [])) (l.getD (i - 1) (bs [])) with
  | true => rw [hb] at h; cases h
  | false => exact strLt_total hb
theorem outS_pos (l : List ByteArray) (j : Nat) (r : Int) (h : outS l j = some r) : r ≠ 0 := by
 unfold outS at h
 cases hp : isPathS (l.getD j (bs [])) <;> rw [hp] at h
 ·cases h; decide
 ·generalize (decide (0 < j) && (strLt (l.getD j (bs [])) (l.getD (j - 1) (bs [])) || strEq (l.getD j (bs [])) (l.getD (j - 1) (bs [])))) = b at h
  cases b
  ·cases h
  ·cases h; decide
theorem rising_distinct {l : List ByteArray} (h : RisingB l) (j : Nat) (hj : j < l.length) : isIn (l.take j) (l.getD j (bs [])) = false := by
 cases hb : isIn (l.take j) (l.getD j (bs [])) with
 | false => rfl
 | true =>
  rw [isIn_iff] at hb
  obtain ⟨i,hi,he⟩ := List.mem_iff_getElem.1 hb
  rw [List.length_take] at hi
  have h1 := h i j (by omega) hj
  rw [show l.getD i (bs []) = l.getD j (bs []) by rw [← he,List.getElem_take,List.getD_eq_getElem?_getD,List.getElem?_eq_getElem (by omega : i < l.length)]; rfl,strLt_irrefl] at h1
  cases h1
structure OutsRight (l : List ByteArray) : Prop where
 n : l.length ≤ 100
 path : ∀ p ∈ l,isPathS p = true
 rise : RisingB l
 apart : ∀ p ∈ l,∀ q ∈ l,liesS p q = false
theorem outs_full {l : List ByteArray} (h : outsS l = 0) : OutsRight l := by
 obtain ⟨h1,h2⟩ := outs_right h
 unfold outsS at h
 cases ha : decide (l.length = 0) with
 | true => rw [ha] at h; cases h
 | false =>
  rw [ha,cond_false] at h
  cases hb : decide (l.length > 100) with
  | true => rw [hb] at h; cases h
  | false =>
   rw [hb,cond_false] at h
   obtain ⟨h3,h4⟩ := firstE_zero (outS_pos l) h
   refine ⟨h1,h2,risingB_of l fun i h0 hi => (outS_none (h3 i hi)).2 h0,fun p hp q hq => ?_⟩
   cases hu : l.any (underS l) with
   | true => rw [hu] at h4; cases h4
   | false =>
    cases hl : liesS p q with
    | false => rfl
    | true =>
     have : l.any (underS l) = true := List.any_eq_true.2 ⟨p,hp,List.any_eq_true.2 ⟨q,hq,hl⟩⟩
     rw [this] at hu; cases hu
structure RuleRight (r : Rule) : Prop where
 name : isPathS r.name = true
 act : actS r.act = 0
 outs : OutsRight r.act.outs
 im : r.ins.length ≤ 1000
 ipath : ∀ p ∈ r.ins,isPathS p = true
 irise : RisingB r.ins
theorem rule_right {r : Rule} (h : ruleS r = 0) : RuleRight r := by
 unfold ruleS at h
 cases h1 : isPathS r.name with
 | false => rw [h1] at h; cases h
 | true =>
  rw [h1,cond_true] at h
  cases h2 : actS r.act == 0 with
  | false => rw [h2,cond_false] at h; rw [h] at h2; cases h2
  | true =>
   rw [h2,cond_true] at h
   cases h3 : decide (r.ins.length > 1000) with
   | true => rw [h3] at h; cases h
   | false =>
    rw [h3,cond_false] at h
    obtain ⟨h4,_⟩ := firstE_zero (outS_pos r.ins) h
    have h3 := of_decide_eq_false h3
    exact ⟨h1,eq_of_beq h2,outs_full (act_right (eq_of_beq h2)).outs,by omega,of_get (z := bs []) fun i hi => (outS_none (h4 i hi)).1,risingB_of _ fun i h0 hi => (outS_none (h4 i hi)).2 h0⟩
theorem RuleRight.fit {r : Rule} (h : RuleRight r) : RuleFit r :=
 ⟨h.outs.n,fun p hp => by have := path_len (h.outs.path p hp); omega,h.im,fun p hp => by have := path_len (h.ipath p hp); omega⟩
theorem name_none {l : List Rule} {i : Nat} (h : nameE l i = none) : ruleS (l.getD i .zero) = 0 ∧ (0 < i → strLt (ruleName l (i - 1)) (ruleName l i) = true) := by
 unfold nameE at h
 cases h1 : ruleS (l.getD i .zero) == 0 with
 | false => rw [h1] at h; cases h
 | true =>
  rw [h1,cond_true] at h
  refine ⟨eq_of_beq h1,fun h0 => ?_⟩
  rw [decide_eq_true h0,Bool.true_and] at h
  cases hb : strLt (ruleName l i) (ruleName l (i - 1)) || strEq (ruleName l i) (ruleName l (i - 1)) with
  | true => rw [hb] at h; cases h
  | false => exact strLt_total hb
theorem clash_same {l : List Rule} (hr : ∀ r ∈ l,RuleRight r) (i : Nat) (hi : i < l.length) (p : ByteArray) (hp : p ∈ (l.getD i .zero).act.outs) : refClash l i p = clashesS l p := by
 have hmem : ∀ k,k < l.length → l.getD k .zero ∈ l := fun k hk => rule_mem l k hk
 have hidx : ∀ r ∈ l,∃ k,k < l.length ∧ l.getD k .zero = r := fun r h => by
  obtain ⟨k,hk,e⟩ := List.mem_iff_getElem.1 h
  exact ⟨k,hk,by rw [List.getD_eq_getElem?_getD,List.getElem?_eq_getElem hk]; exact e⟩
 rw [Bool.eq_iff_iff]
 unfold refClash clashesS overIns
 rw [List.any_eq_true,Bool.or_eq_true,List.any_eq_true,List.any_eq_true]
 constructor
 ·rintro ⟨k,hk,h⟩
  rw [List.mem_range] at hk
  unfold clashAt clashOuts clashIns at h
  rw [Bool.or_eq_true,Bool.and_eq_true,List.any_eq_true,List.any_eq_true] at h
  rcases h with ⟨_,q,hq,hl⟩ | ⟨q,hq,hl⟩
  ·refine .inr ⟨q,(mem_above p q).2 hl,?_⟩
   rw [Bool.or_eq_true]
   exact .inl (List.any_eq_true.2 ⟨_,hmem k hk,(isIn_iff _ _).2 hq⟩)
  ·rw [Bool.or_eq_true] at hl
   rcases hl with hl | hl
   ·refine .inr ⟨q,(mem_above p q).2 hl,?_⟩
    rw [Bool.or_eq_true]
    exact .inr (List.any_eq_true.2 ⟨_,hmem k hk,(isIn_iff _ _).2 hq⟩)
   ·exact .inl ⟨_,hmem k hk,by rw [over_lies]; exact List.any_eq_true.2 ⟨q,hq,hl⟩⟩
 ·rintro (⟨r,hrl,h⟩ | ⟨q,hq,h⟩)
  ·obtain ⟨k,hk,e⟩ := hidx r hrl
   rw [over_lies,List.any_eq_true] at h
   obtain ⟨q,hq,hl⟩ := h
   refine ⟨k,List.mem_range.2 hk,?_⟩
   unfold clashAt clashIns
   rw [Bool.or_eq_true,List.any_eq_true]
   exact .inr ⟨q,by rw [e]; exact hq,by rw [hl,Bool.or_true]⟩
  ·have hl := (mem_above p q).1 hq
   rw [Bool.or_eq_true] at h
   unfold outsIn insIn at h
   rw [List.any_eq_true,List.any_eq_true] at h
   rcases h with ⟨r,hrl,h⟩ | ⟨r,hrl,h⟩
   ·obtain ⟨k,hk,e⟩ := hidx r hrl
    rw [isIn_iff] at h
    refine ⟨k,List.mem_range.2 hk,?_⟩
    unfold clashAt clashOuts
    rw [Bool.or_eq_true,Bool.and_eq_true,List.any_eq_true]
    refine .inl ⟨?_,q,by rw [e]; exact h,hl⟩
    cases hki : k == i with
    | false => rfl
    | true =>
     have : k = i := eq_of_beq hki
     subst this
     rw [e] at hp
     rw [(hr r hrl).outs.apart p hp q h] at hl
     cases hl
   ·obtain ⟨k,hk,e⟩ := hidx r hrl
    rw [isIn_iff] at h
    refine ⟨k,List.mem_range.2 hk,?_⟩
    unfold clashAt clashIns
    rw [Bool.or_eq_true,List.any_eq_true]
    exact .inr ⟨q,by rw [e]; exact h,by rw [hl,Bool.true_or]⟩
theorem firstE_none' {step : Nat → Option Int} {n : Nat} (h : firstE step n = none) : ∀ j,j < n → step j = none := fun j hj => firstE_none n 0 h j (Nat.zero_le _) (by omega)
theorem rules_right {l : List Rule} (h : firstE (nameE l) l.length = none) : ∀ r ∈ l,RuleRight r :=
 of_get (z := Rule.zero) fun i hi => rule_right (name_none (firstE_none' h i hi)).1
theorem rules_fit {l : List Rule} (hn : l.length ≤ 500) (hr : ∀ r ∈ l,RuleRight r) : RulesFit l :=
 ⟨hn,fun r h => (hr r h).fit,fun r h j hj => rising_distinct (hr r h).outs.rise j hj,fun i hi j hj => clash_same hr i hi _ (str_mem _ j hj)⟩
theorem op_b1 {k : Nat} (hk : Many k) (l : List Rule) (fit : RulesFit l) (id : Nat) (ids : Ids) (hid : ∀ x ∈ idL ids,x ≠ id ∧ x ≠ id + 1) (S : List LV) (hP : PlanAt S id l (ofN l 0) .nilsl) (hT : Tang S ids (outsIn l) (insIn l) (overOuts l) (overIns l)) :
  ∃ S',(∀ e,allOutE l = some e → Keeps S S' [id]) ∧ (allOutE l = none → PlanAt S' id l (ofN l l.length) .nilsl ∧ Keeps S S' [id]) ∧
   ∀ q : (List LV × (Nat × Nat) × Unit → List LV → Option R) × (LV × Int × Unit → List LV → Option R),rounds (G.steps_open.b1 k q.1 q.2) k (l.map Rule.lv,(id + 1,0),ids,l.map Rule.lv,(l.length : Int),0,()) S =
    (match allOutE l with | some e => q.2 (.nilp,e,()) S' | none => q.1 (l.map Rule.lv,(id + 1,0),()) S') := by
 have hk' := hk
 unfold Many at hk'
 have hn := fit.n
 have hl := loop_inv (R := R) (ε := Int) (b := fun (q : (List LV × (Nat × Nat) × Unit → List LV → Option R) × (LV × Int × Unit → List LV → Option R)) => G.steps_open.b1 k q.1 q.2) (x := fun i => (l.map Rule.lv,(id + 1,0),ids,l.map Rule.lv,(l.length : Int),(i : Int),())) (n := l.length)
  (Inv := fun i S1 => PlanAt S1 id l (ofN l i) .nilsl ∧ Tang S1 ids (outsIn l) (insIn l) (overOuts l) (overIns l) ∧ Keeps S S1 [id])
  (PE := fun _ S1 => Keeps S S1 [id]) (e := ruleOutE l)
  (out := fun q o S' => match o with | some e => q.2 (.nilp,e,()) S' | none => q.1 (l.map Rule.lv,(id + 1,0),()) S')
  (fun i S1 hi hI => ?_) (fun q rec S1 hI => ?_) l.length 0 k S (by omega) (by omega) ⟨hP,hT,Keeps.refl _ _⟩
 ·obtain ⟨S',h1,h2,h3⟩ := hl
  exact ⟨S',h1,fun hn => ⟨(h2 hn).1,(h2 hn).2.2⟩,h3⟩
 ·obtain ⟨hP1,hT1,hK⟩ := hI
  obtain ⟨S2,h1,h2,h3⟩ := op_b2 (R := R) hk l fit id ids hid i hi (i : Int) S1 hP1 hT1
  have hb : ∀ (q : (List LV × (Nat × Nat) × Unit → List LV → Option R) × (LV × Int × Unit → List LV → Option R)) rec,G.steps_open.b1 k q.1 q.2 rec (l.map Rule.lv,(id + 1,0),ids,l.map Rule.lv,(l.length : Int),(i : Int),()) S1 =
    (match ruleOutE l i with | some e => q.2 (.nilp,e,()) S2 | none => rec (l.map Rule.lv,(id + 1,0),ids,l.map Rule.lv,(l.length : Int),((i + 1 : Nat) : Int),()) S2) := fun q rec => by
   unfold G.steps_open.b1
   dsimp only
   rw [lt_nat,ifB_pos hi,idxL_nat (by simpa using hi),rule_get l i hi,Rule.mat,rule_cells,List.length_map]
   refine (h3 (_,_)).trans ?_
   cases ruleOutE l i with
   | some e => rfl
   | none =>
    dsimp only
    rw [wrap_succ (by omega)]
  exact ⟨fun e he => ⟨S2,hK.trans (h1 e he),fun q rec => by rw [hb,he]⟩,fun he => ⟨S2,⟨(h2 he).1,(h2 he).2.1,hK.trans (h2 he).2.2⟩,fun q rec => by rw [hb,he]⟩⟩
 ·unfold G.steps_open.b1
  dsimp only
  rw [lt_nat,ifB_neg (Nat.lt_irrefl _)]
end
end Go.Lm
set_option maxRecDepth 100000
namespace Go.Lm
section
variable {R : Type}
def KeysI (m : List (LV × LV)) (ks : List Nat) : Prop := m.map Prod.fst = ints ks
theorem KeysI.put : ∀ {m : List (LV × LV)} {ks : List Nat} (_ : KeysI m ks) (a : Nat) (v : LV),KeysI (mapPut m (.int .i64 (a : Int)) v) (cond (ks.contains a) ks (ks ++ [a]))
 | [],ks,h,a,v => by
  have : ks = [] := by
   cases ks with
   | nil => rfl
   | cons x ks => cases h
  subst this; rfl
 | (x,y) :: m,[],h,a,v => by cases h
 | (x,y) :: m,k :: ks,h,a,v => by
  unfold KeysI ints at h
  rw [List.map_cons,List.map_cons] at h
  injection h with h1 h2
  have h1 : x = .int .i64 (k : Int) := h1
  subst h1
  have ih := KeysI.put (m := m) (ks := ks) h2 a v
  unfold KeysI at ih ⊢
  simp only [mapPut,keyEq]
  by_cases e : k = a
  ·subst e
   rw [decide_eq_true rfl]
   simp only [List.contains_cons,beq_self_eq_true,Bool.true_or,cond_true]
   rw [List.map_cons]
   unfold ints
   rw [List.map_cons,h2]
  ·rw [decide_eq_false (by omega)]
   simp only [List.contains_cons,show (a == k) = false by simp; omega,Bool.false_or]
   rw [List.map_cons,ih]
   cases ks.contains a <;> rfl
structure IsSetI (S : List LV) (id n : Nat) (P : Nat → Bool) : Prop where
 ex : ∃ m ks,S.getD id .any = .mp (.int .i64) m ∧ KeysI m ks ∧ ks.Nodup ∧ ∀ k,k ∈ ks ↔ k < n ∧ P k = true
theorem IsSetI.keeps {S S' : List LV} {id n : Nat} {P : Nat → Bool} {M : List Nat} (h : IsSetI S id n P) (hk : Keeps S S' M) (hm : id ∉ M) : IsSetI S' id n P := by
 obtain ⟨m,ks,h1,h2⟩ := h.ex
 exact ⟨m,ks,hk.get h1 (by simp) hm,h2⟩
theorem IsSetI.put {S : List LV} {id n : Nat} {P : Nat → Bool} (h : IsSetI S id n P) (a : Nat) (ha : a < n) : ∃ S',IsSetI S' id n (fun k => P k || decide (a = k)) ∧ Keeps S S' [id] ∧
  ∀ K : List LV → Option R,(mpAt S id (.int .i64) fun m => setS (S.set id (.mp (.int .i64) (mapPut m (.int .i64 (a : Int)) (.bool true)))) K) = K S' := by
 obtain ⟨m,ks,h1,h2,h3,h4⟩ := h.ex
 refine ⟨_,⟨mapPut m (.int .i64 (a : Int)) (.bool true),cond (ks.contains a) ks (ks ++ [a]),get_set (lt_get h1 (by simp)),h2.put a _,?_,fun k => ?_⟩,Keeps.set S id (.mp (.int .i64) (mapPut m (.int .i64 (a : Int)) (.bool true))),fun K => ?_⟩
 ·cases hc : ks.contains a with
  | true => exact h3
  | false =>
   have hn : a ∉ ks := by simpa using hc
   show (ks ++ [a]).Nodup
   rw [List.nodup_append]
   refine ⟨h3,by simp,fun x hx y hy => ?_⟩
   simp at hy
   subst hy
   exact fun e => hn (e ▸ hx)
 ·rw [Bool.or_eq_true,decide_eq_true_iff]
  cases hc : ks.contains a with
  | true =>
   have hin : a ∈ ks := by simpa using hc
   show k ∈ ks ↔ _
   rw [h4]
   constructor
   ·exact fun h => ⟨h.1,.inl h.2⟩
   ·rintro ⟨h5,h6 | h6⟩
    ·exact ⟨h5,h6⟩
    ·subst h6; exact (h4 _).1 hin
  | false =>
   show k ∈ ks ++ [a] ↔ _
   rw [List.mem_append,h4]
   constructor
   ·rintro (h5 | h5)
    ·exact ⟨h5.1,.inl h5.2⟩
    ·simp at h5; subst h5; exact ⟨ha,.inr rfl⟩
   ·rintro ⟨h5,h6 | h6⟩
    ·exact .inl ⟨h5,h6⟩
    ·exact .inr (by simp [h6])
 ·unfold mpAt
  rw [h1]; rfl
theorem IsSetI.congr {S : List LV} {id n : Nat} {P P' : Nat → Bool} (h : IsSetI S id n P) (hp : ∀ p,P p = P' p) : IsSetI S id n P' := by
 have : P = P' := funext hp
 rw [← this]; exact h
def natZ (l : List Nat) : List Int := l.map fun (k : Nat) => (k : Int)
theorem IsSetI.sorted {S : List LV} {id n : Nat} {P : Nat → Bool} (h : IsSetI S id n P) (hn : n ≤ 500) : ∃ m,S.getD id .any = .mp (.int .i64) m ∧ H.keyIok m = true ∧ sortI m = natZ ((List.range n).filter P) := by
 obtain ⟨m,ks,h1,h2,h3,h4⟩ := h.ex
 have hp : ks.Perm ((List.range n).filter P) := (List.perm_ext_iff_of_nodup h3 (List.nodup_range.sublist List.filter_sublist)).2 fun k => by
  rw [h4,List.mem_filter,List.mem_range]
 have hk : m.map (fun kv => keyI kv.1) = natZ ks := by
  have : m.map (fun kv => keyI kv.1) = (m.map Prod.fst).map keyI := by rw [List.map_map]; rfl
  rw [this,h2]
  unfold ints natZ
  rw [List.map_map]; rfl
 have hlen : m.length = ks.length := by have := congrArg List.length h2; simpa [ints] using this
 have hl : ks.length ≤ n := by
  rw [hp.length_eq]
  have := List.length_filter_le P (List.range n)
  rwa [List.length_range] at this
 refine ⟨m,h1,?_,?_⟩
 ·unfold H.keyIok
  rw [Bool.and_eq_true,decide_eq_true_iff,List.all_eq_true]
  refine ⟨by omega,fun kv hkv => decide_eq_true ?_⟩
  have : keyI kv.1 ∈ natZ ks := by rw [← hk]; exact List.mem_map.2 ⟨kv,hkv,rfl⟩
  obtain ⟨k,hks,e⟩ := List.mem_map.1 this
  have := ((h4 k).1 hks).1
  rw [← e]
  constructor <;> omega
 ·unfold sortI
  rw [hk,sort_perm (r := fun (a b : Int) => a ≤ b) (fun a b c h1 h2 => Int.le_trans h1 h2) (fun a b => Int.le_total a b) (fun a b h1 h2 => Int.le_antisymm h1 h2) (l := natZ ks) (l' := natZ ((List.range n).filter P)) (hp.map _)]
  refine List.mergeSort_of_pairwise ?_
  show List.Pairwise (fun a b => decide (a ≤ b) = true) (List.map (fun (k : Nat) => (k : Int)) ((List.range n).filter P))
  rw [List.pairwise_map]
  refine (List.pairwise_lt_range.filter P).imp fun {a b} h => ?_
  simp; omega
theorem ofN_lt (l : List Rule) (p : ByteArray) : ∀ i k,ofN l i p = some k → k < i
 | 0,_,h => by cases h
 | i + 1,k,h => by
  have h : cond (isIn (l.getD i .zero).act.outs p) (some i) (ofN l i p) = some k := h
  cases hb : isIn (l.getD i .zero).act.outs p with
  | true => rw [hb] at h; cases h; omega
  | false => rw [hb] at h; have := ofN_lt l p i k h; omega
def usesP (l : List Rule) (q : List ByteArray) (k : Nat) : Bool := q.any fun p => decide (ofN l l.length p = some k)
theorem op_b4 {k : Nat} (hk : Many k) (l : List Rule) (hn : l.length ≤ 500) (id mid : Nat) (hid : mid ≠ id ∧ mid ≠ id + 1) (deps : LV) (q : List ByteArray) (hq : q.length ≤ 1000) (ls : List LV) (n i : Int) (S : List LV) (hP : PlanAt S id l (ofN l l.length) deps) (hM : IsSetI S mid l.length (fun _ => false)) :
  ∃ S',(PlanAt S' id l (ofN l l.length) deps ∧ IsSetI S' mid l.length (usesP l q) ∧ Keeps S S' [mid]) ∧
   ∀ J : (Nat × Nat) × Nat × List LV × Int × Int × Unit → List LV → Option R,rounds (G.steps_open.b4 k J) k ((id + 1,0),mid,ls,n,i,q.map .str,(q.length : Int),0,()) S = J ((id + 1,0),mid,ls,n,i,()) S' := by
 have hk' := hk
 unfold Many at hk'
 have hl := loop_all (R := R) (b := fun J => G.steps_open.b4 k J) (x := fun t => ((id + 1,0),mid,ls,n,i,q.map LV.str,(q.length : Int),(t : Int),())) (n := q.length)
  (Inv := fun t S1 => PlanAt S1 id l (ofN l l.length) deps ∧ IsSetI S1 mid l.length (usesP l (q.take t)) ∧ Keeps S S1 [mid])
  (out := fun (J : (Nat × Nat) × Nat × List LV × Int × Int × Unit → List LV → Option R) S' => J ((id + 1,0),mid,ls,n,i,()) S')
  (fun t S1 ht hI => ?_) (fun J rec S1 hI => ?_) k (by omega) S ⟨hP,hM.congr (fun p => by simp [usesP]),Keeps.refl _ _⟩
 ·obtain ⟨S',⟨h1,h2,h3⟩,h4⟩ := hl
  rw [List.take_length] at h2
  exact ⟨S',⟨h1,h2,h3⟩,h4⟩
 ·obtain ⟨hP1,hM1,hK⟩ := hI
  obtain ⟨⟨m,hMap⟩,hPl⟩ := hP1
  have hb : ∀ (J : (Nat × Nat) × Nat × List LV × Int × Int × Unit → List LV → Option R) rec,G.steps_open.b4 k J rec ((id + 1,0),mid,ls,n,i,q.map LV.str,(q.length : Int),(t : Int),()) S1 =
    ifB (ofN l l.length (q.getD t (bs []))).isSome (mpAt S1 mid (.int .i64) fun m => setS (S1.set mid (.mp (.int .i64) (mapPut m (.int .i64 (((ofN l l.length (q.getD t (bs []))).getD 0 : Nat) : Int)) (.bool true)))) fun S => rec ((id + 1,0),mid,ls,n,i,q.map LV.str,(q.length : Int),((t + 1 : Nat) : Int),()) S) (rec ((id + 1,0),mid,ls,n,i,q.map LV.str,(q.length : Int),((t + 1 : Nat) : Int),()) S1) := fun J rec => by
   unfold G.steps_open.b4
   dsimp only
   rw [lt_nat,ifB_pos ht,idxL_nat (by simpa using ht),map_str_get _ t ht,asLeaf_str,at_of hPl,plan_map,asMap_map,hMap.mp,hMap.get,of_int,of_some,wrap_succ (by omega)]
  cases ho : ofN l l.length (q.getD t (bs [])) with
  | none =>
   refine ⟨S1,⟨⟨⟨m,hMap⟩,hPl⟩,hM1.congr fun p => ?_,hK⟩,fun J rec => by rw [hb,ho]; rfl⟩
   unfold usesP
   rw [any_take _ q (bs []) t ht,ho]
   simp
  | some a =>
   have ha := ofN_lt l _ _ _ ho
   obtain ⟨S2,h1,h2,h3⟩ := hM1.put (R := R) a ha
   refine ⟨S2,⟨⟨⟨m,hMap.keeps h2 (by simp; exact Ne.symm hid.1)⟩,h2.get hPl (by simp) (by simp; exact Ne.symm hid.2)⟩,h1.congr fun p => ?_,hK.trans h2⟩,fun J rec => ?_⟩
   ·unfold usesP
    rw [any_take _ q (bs []) t ht,ho]
    simp
   ·rw [hb,ho]
    exact h3 _
 ·unfold G.steps_open.b4
  dsimp only
  rw [lt_nat,ifB_neg (Nat.lt_irrefl _)]
end
end Go.Lm
set_option maxRecDepth 100000
namespace Go.Lm
section
variable {R : Type}
def rowS (r : List Nat) : LV := .sl 1 (ints r)
def depsV (rows : List (List Nat)) : LV := match rows with
 | [] => .nilsl
 | rows => .own 45 1 (rows.map rowS)
theorem depsV_own (rows : List (List Nat)) (K : List LV → Option R) : asOwn 45 1 (depsV rows) K = K (rows.map rowS) := by
 cases rows <;> rfl
theorem depsV_snoc (rows : List (List Nat)) (r : List Nat) : LV.own 45 1 ((rows ++ [r]).map rowS) = depsV (rows ++ [r]) := by
 cases rows <;> rfl
def depsOf (l : List Rule) (i : Nat) : List Nat := (List.range l.length).filter (usesP l (l.getD i .zero).ins)
def depsTo (l : List Rule) (t : Nat) : List (List Nat) := (List.range t).map (depsOf l)
theorem depsTo_succ (l : List Rule) (t : Nat) : depsTo l (t + 1) = depsTo l t ++ [depsOf l t] := by
 unfold depsTo
 rw [List.range_succ,List.map_append]; rfl
theorem depsTo_len (l : List Rule) (t : Nat) : (depsTo l t).length = t := by simp [depsTo]
theorem set_get (S : List LV) (h : Nat) (T : List LV) (hh : h < S.length) : (S.set h .any ++ T).set h (S.getD h .any) = S ++ T := by
 rw [List.set_append_left _ _ (by simpa using hh),List.set_set]
 congr 1
 apply List.ext_getElem?
 intro j
 rw [List.getElem?_set]
 by_cases e : h = j
 ·subst e
  simp [hh,List.getD_eq_getElem?_getD]
 ·simp [e]
theorem hidR_set (S : List LV) (h : Nat) (T : List LV) (hh : h < S.length) (K : List LV → Option R) : hidR h (S.getD h .any) (S.set h .any ++ T) K = K (S ++ T) := by
 unfold hidR
 rw [show Nat.blt h (S.set h .any ++ T).length = true from Nat.ble_eq_true_of_le (by simp; omega),ifB_true,set_get S h T hh]
theorem hidR_set0 (S : List LV) (h : Nat) (hh : h < S.length) (K : List LV → Option R) : hidR h (S.getD h .any) (S.set h .any) K = K S := by
 have := hidR_set S h [] hh K
 rwa [List.append_nil,List.append_nil] at this
theorem op_b3 {k : Nat} (hk : Many k) (l : List Rule) (fit : RulesFit l) (id : Nat) (S : List LV) (hP : PlanAt S id l (ofN l l.length) .nilsl) :
  ∃ S',(PlanAt S' id l (ofN l l.length) (depsV (depsTo l l.length)) ∧ Keeps S S' [id + 1]) ∧
   ∀ J : (Nat × Nat) × Unit → List LV → Option R,rounds (G.steps_open.b3 k J) k ((id + 1,0),l.map Rule.lv,(l.length : Int),0,()) S = J ((id + 1,0),()) S' := by
 have hk' := hk
 unfold Many at hk'
 have hn := fit.n
 refine loop_all (R := R) (b := fun J => G.steps_open.b3 k J) (x := fun t => ((id + 1,0),l.map Rule.lv,(l.length : Int),(t : Int),())) (n := l.length)
  (Inv := fun t S1 => PlanAt S1 id l (ofN l l.length) (depsV (depsTo l t)) ∧ Keeps S S1 [id + 1])
  (out := fun (J : (Nat × Nat) × Unit → List LV → Option R) S' => J ((id + 1,0),()) S')
  (fun t S1 ht hI => ?_) (fun J rec S1 hI => ?_) k (by omega) S ⟨hP,Keeps.refl _ _⟩
 ·obtain ⟨hP1,hK⟩ := hI
  have hid1 : id + 1 < S1.length := lt_get hP1.plan (by simp)
  have hid0 : id < S1.length := by omega
  have hK2 : Keeps S1 (S1 ++ [.mp (.int .i64) []]) [] := Keeps.app _ _ _
  have hM0 : IsSetI (S1 ++ [.mp (.int .i64) []]) S1.length l.length (fun _ => false) := ⟨[],[],get_end _ _,rfl,List.nodup_nil,fun k => by simp⟩
  obtain ⟨S3,⟨hP3,hM3,hK3⟩,h3⟩ := op_b4 (R := R) hk l hn id S1.length ⟨by omega,by omega⟩ _ (l.getD t .zero).ins (fit.fit _ (rule_mem l t ht)).im (l.map Rule.lv) (l.length : Int) (t : Int) _ (hP1.keeps hK2 (by simp) (by simp)) hM0
  have hl3 : S1.length + 1 ≤ S3.length := by have := hK3.1; simp at this; omega
  let rows := (depsTo l t).map rowS
  let S4 := S3.set (id + 1) (.obj 66 [.sl 8 (l.map Rule.lv),.map id,.sl 1 rows])
  have hl4 : S4.length = S3.length := by simp [S4]
  let S5 := S4 ++ [.obj 94 [.map S1.length]]
  let rows2 := (depsTo l (t + 1)).map rowS
  let S6 := S5.set (id + 1) (.obj 66 [.sl 8 (l.map Rule.lv),.map id,.own 45 1 rows2])
  have hp4 : S4.getD (id + 1) .any = .obj 66 [.sl 8 (l.map Rule.lv),.map id,.sl 1 rows] := get_set (by omega)
  have hp5 : S5.getD (id + 1) .any = .obj 66 [.sl 8 (l.map Rule.lv),.map id,.sl 1 rows] := get_app _ hp4 (by simp)
  have hK34 : Keeps S3 S4 [id + 1] := Keeps.set _ _ _
  have hK45 : Keeps S4 S5 [] := Keeps.app _ _ _
  have hK56 : Keeps S5 S6 [id + 1] := Keeps.set _ _ _
  have hK36 : Keeps S3 S6 [id + 1] := hK34.trans ((hK45.weak (fun m hm => by simp at hm)).trans hK56)
  obtain ⟨m,hm1,hm2,hm3⟩ := hM3.sorted hn
  have hm5 : (S5.set (id + 1) .any).getD S1.length .any = .mp (.int .i64) m := by
   rw [other_set (by omega)]
   exact hK45.get (hK34.get hm1 (by simp) (by simp; omega)) (by simp) (by simp)
  have ho5 : (S5.set (id + 1) .any).getD S4.length .any = .obj 94 [.map S1.length] := by
   rw [other_set (by omega)]
   exact get_end _ _
  refine ⟨S6,⟨?_,hK.trans (((hK2.weak (fun m hm => by simp at hm)).trans (hK3.weak ?_ : Keeps _ _ [S1.length,id + 1])).trans (hK36.weak (fun m hm => .inl (by simp at hm; simp [hm]))) |>.weak ?_)⟩,fun J rec => ?_⟩
  ·obtain ⟨⟨m0,hm0⟩,_⟩ := hP3
   refine ⟨⟨m0,hm0.keeps hK36 (by simp)⟩,?_⟩
   rw [show S6.getD (id + 1) .any = _ from get_set (by simp [S5]; omega)]
   show LV.obj 66 [_,_,.own 45 1 ((depsTo l (t + 1)).map rowS)] = _
   rw [depsTo_succ,depsV_snoc]
  ·intro m hm; left; simp at hm; simp [hm]
  ·intro m hm
   simp at hm
   rcases hm with rfl | rfl
   ·right; exact Nat.le_refl _
   ·left; simp
  ·unfold G.steps_open.b3
   dsimp only
   rw [lt_nat,ifB_pos ht,idxL_nat (by simpa using ht),rule_get l t ht,Rule.mat,rule_cells]
   unfold newObj
   rw [List.length_map]
   refine (h3 _).trans ?_
   dsimp only
   rw [Nat.beq_refl,ifB_true,at_of hP3.plan]
   have e : ∀ K : List LV → Option R,asOwn 45 1 (([LV.sl 8 (l.map Rule.lv),.map id,depsV (depsTo l t)] : List LV).getD (0 + 2) .any) K = K rows := fun K => depsV_own _ K
   rw [e,setS_of]
   unfold G.maps_Keys_map_int_bool_int_bool.fn newObj
   dsimp only
   rw [show S3.set (id + 1) (LV.obj 66 (([LV.sl 8 (l.map Rule.lv),.map id,depsV (depsTo l t)] : List LV).set (0 + 2) (.sl 1 rows))) = S4 from rfl]
   rw [hidR_set S4 (id + 1) _ (by omega),List.length_set]
   unfold H.SortedI.fn sortedIF
   dsimp only
   rw [show S4 ++ [LV.obj 94 [.map S1.length]] = S5 from rfl,ho5]
   dsimp only
   rw [hm5]
   dsimp only
   rw [Nat.beq_refl,hm2]
   rw [show (true && true) = true from rfl]
   dsimp only
   rw [hidR_set0 S5 (id + 1) (by simp [S5]; omega),hm3]
   have e3 : (natZ ((List.range l.length).filter (usesP l (l.getD t .zero).ins))).map (fun n => LV.int .i64 n) = ints (depsOf l t) := by
    unfold natZ ints depsOf
    rw [List.map_map]; rfl
   rw [e3,app_one (by simp [rows,depsTo_len]; omega) (by simp [rows,depsTo_len]; omega),at_of hp5]
   have e4 : rows ++ [LV.sl 1 (ints (depsOf l t))] = rows2 := by
    show (depsTo l t).map rowS ++ [rowS (depsOf l t)] = (depsTo l (t + 1)).map rowS
    rw [depsTo_succ,List.map_append]; rfl
   have e5 : ∀ (v : LV) (K : List LV → Option R),stO [LV.sl 8 (l.map Rule.lv),.map id,.sl 1 rows] (0 + 2) [v] K = K [.sl 8 (l.map Rule.lv),.map id,v] := fun v K => rfl
   rw [e4,e5,setS_of,wrap_succ (by omega)]
 ·unfold G.steps_open.b3
  dsimp only
  rw [lt_nat,ifB_neg (Nat.lt_irrefl _)]
end
end Go.Lm
set_option maxRecDepth 100000
namespace Go.Lm
section
variable {R : Type}
def IntsObj (S : List LV) (id n : Nat) (g : Nat → Int) : Prop := S.getD id .any = .obj 3 ((List.range n).map fun i => LV.int .i64 (g i))
def intsO (n : Nat) (g : Nat → Int) : LV := .obj 3 ((List.range n).map fun i => LV.int .i64 (g i))
def rowsO (n : Nat) (f : Nat → List Nat) : LV := .obj 45 ((List.range n).map fun i => rowR (f i))
def updF {α : Type} (g : Nat → α) (i : Nat) (v : α) (j : Nat) : α := cond (j == i) v (g j)
theorem range_get {n i : Nat} (h : i < n) (g : Nat → LV) : ((List.range n).map g).getD i .any = g i := by simp [List.getD_eq_getElem?_getD,h]
theorem range_len (n : Nat) (g : Nat → LV) : ((List.range n).map g).length = n := by simp
theorem IntsObj.ld {S : List LV} {id n : Nat} {g : Nat → Int} (h : IntsObj S id n g) {i : Nat} (hi : i < n) (K : Int → Option R) : (objAt S id fun _ c => ldInt .i64 c (0 + i * 1) K) = K (g i) := by
 rw [at_of h]
 unfold ldInt
 rw [Nat.zero_add,Nat.mul_one,range_len,show Nat.blt i n = true from Nat.ble_eq_true_of_le hi,ifB_true,range_get hi]
 exact asInt_int _ _ _
theorem IntsObj.st {S : List LV} {id n : Nat} {g : Nat → Int} (h : IntsObj S id n g) {i : Nat} (hi : i < n) (v : Int) (K : List LV → Option R) :
  (objAt S id fun ty c => stO c (0 + i * 1) [.int .i64 v] fun c' => setS (S.set id (ty c')) K) = K (S.set id (intsO n (updF g i v))) := by
 rw [at_of h]
 unfold stO
 rw [Nat.zero_add,Nat.mul_one,show Nat.ble (i + ([LV.int .i64 v] : List LV).length) ((List.range n).map fun i => LV.int .i64 (g i)).length = true from Nat.ble_eq_true_of_le (by simp; omega),ifB_true]
 dsimp only
 rw [setFrom_one _ _ _ (by simp; omega),set_range,setS_of]
 congr 3
 congr 1
 funext j
 unfold updF
 cases j == i <;> rfl
theorem IntsObj.of (S : List LV) (id n : Nat) (g : Nat → Int) (h : id < S.length) : IntsObj (S.set id (intsO n g)) id n g := get_set h
theorem RowsObj.of (S : List LV) (id n : Nat) (f : Nat → List Nat) (h : id < S.length) : RowsObj (S.set id (rowsO n f)) id n f := get_set h
theorem RowsObj.app {S : List LV} {id n : Nat} {f : Nat → List Nat} (h : RowsObj S id n f) {i : Nat} (hi : i < n) (a : Nat) (hl : (f i).length ≤ 500) (K : List LV → Option R) :
  (idxN n (i : Int) fun v => objAt S id fun ty c => asOwn 3 1 (c.getD (0 + v * 1) .any) fun l => setS (S.set id (ty (c.set (0 + v * 1) (.sl 1 l)))) fun S => app 8 l [.int .i64 (a : Int)] fun l2 => idxN n (i : Int) fun w => objAt S id fun ty c2 => stO c2 (0 + w * 1) [.own 3 1 l2] fun c3 => setS (S.set id (ty c3)) K) =
   K (S.set id (rowsO n (updF f i (f i ++ [a])))) := by
 rw [idxN_nat hi,at_of h,Nat.zero_add,Nat.mul_one,range_get hi,rowR_own,setS_of,app_one (by rw [ints_len]; omega) (by rw [ints_len]; omega),ints_snoc,idxN_nat hi,at_of (has_set h _)]
 unfold stO
 rw [Nat.zero_add,Nat.mul_one,show Nat.ble (i + ([LV.own 3 1 (ints (f i ++ [a]))] : List LV).length) (((List.range n).map fun j => rowR (f j)).set i (.sl 1 (ints (f i)))).length = true from Nat.ble_eq_true_of_le (by simp; omega),ifB_true]
 dsimp only
 rw [setS_of,setFrom_one _ _ _ (by simp; omega),List.set_set,List.set_set,set_range]
 congr 3
 congr 1
 funext j
 unfold updF
 cases j == i with
 | true => exact rowR_snoc _ _
 | false => rfl
theorem RowsObj.ld {S : List LV} {id n : Nat} {f : Nat → List Nat} (h : RowsObj S id n f) {i : Nat} (hi : i < n) (K : List LV → Option R) : (objAt S id fun _ c => ldSl 1 c (0 + i * 1) K) = K (ints (f i)) := by
 rw [at_of h]
 unfold ldSl
 rw [Nat.zero_add,Nat.mul_one,range_len,show Nat.blt i n = true from Nat.ble_eq_true_of_le hi,ifB_true,range_get hi]
 cases f i with
 | nil => rfl
 | cons a l => exact asSl_sl 1 _ K
def usersTo (D : List (List Nat)) (inn : List Bool) (t k : Nat) : List Nat := (List.range t).filter fun i => inn.getD i false && (D.getD i []).contains k
def usersIn (D : List (List Nat)) (inn : List Bool) (i j k : Nat) : List Nat := usersTo D inn i k ++ cond (((D.getD i []).take j).contains k) [i] []
def leftTo (D : List (List Nat)) (inn : List Bool) (t i : Nat) : Int := cond (decide (i < t) && inn.getD i false) (((D.getD i []).length : Nat) : Int) 0
theorem usersTo_len (D : List (List Nat)) (inn : List Bool) (t k : Nat) : (usersTo D inn t k).length ≤ t := by
 have := List.length_filter_le (fun i => inn.getD i false && (D.getD i []).contains k) (List.range t)
 rw [List.length_range] at this
 exact this
theorem usersTo_succ (D : List (List Nat)) (inn : List Bool) (t k : Nat) : usersTo D inn (t + 1) k = usersTo D inn t k ++ cond (inn.getD t false && (D.getD t []).contains k) [t] [] := by
 unfold usersTo
 rw [List.range_succ,List.filter_append,List.filter_cons]
 cases (inn.getD t false && (D.getD t []).contains k) <;> simp
structure Rows (D : List (List Nat)) : Prop where
 small : Small D
 nodup : ∀ r ∈ D,r.Nodup
theorem Rows.get {D : List (List Nat)} (h : Rows D) (i : Nat) (hi : i < D.length) : (D.getD i []).Nodup :=
 h.nodup _ (by rw [List.getD_eq_getElem?_getD,List.getElem?_eq_getElem hi]; exact List.getElem_mem hi)
theorem take_contains (r : List Nat) (j : Nat) (hj : j < r.length) (k : Nat) : (r.take (j + 1)).contains k = ((r.take j).contains k || (k == r.getD j 0)) := by
 rw [List.take_add_one,List.getElem?_eq_getElem hj,List.getD_eq_getElem?_getD,List.getElem?_eq_getElem hj]
 simp only [Option.toList_some,Option.getD_some]
 rw [Bool.eq_iff_iff,List.contains_iff_mem,List.mem_append,Bool.or_eq_true,List.contains_iff_mem,beq_iff_eq,List.mem_singleton]
theorem nat_mem (l : List Nat) (j : Nat) (h : j < l.length) : l.getD j 0 ∈ l := by
 rw [List.getD_eq_getElem?_getD,List.getElem?_eq_getElem h]; exact List.getElem_mem h
theorem nodup_take {r : List Nat} (h : r.Nodup) (j : Nat) (hj : j < r.length) : (r.take j).contains (r.getD j 0) = false := by
 cases hb : (r.take j).contains (r.getD j 0) with
 | false => rfl
 | true =>
  have hm : r.getD j 0 ∈ r.take j := by simpa using hb
  obtain ⟨i,hi,he⟩ := List.mem_iff_getElem.1 hm
  rw [List.length_take] at hi
  rw [List.getElem_take,List.getD_eq_getElem?_getD,List.getElem?_eq_getElem hj,Option.getD_some] at he
  have := (List.getElem_inj (xs := r) (h₀ := by omega) (h₁ := hj) h).1 he
  omega
abbrev OnT := (Nat × Nat) × Unit × (Nat × Nat × Nat) × (Nat × Nat × Nat) × Int × LL × Int × Int × Unit
theorem on_b1 {k : Nat} (hk : Many k) (D : List (List Nat)) (hD : Rows D) (inn : List Bool) (pl : Nat × Nat) (li : Nat × Nat × Nat) (ui i : Nat) (hi : i < D.length) (many : Int) (rows : LL) (n ii : Int) (S : List LV) (hS : RowsObj S ui D.length (usersTo D inn i)) :
  ∃ S',(RowsObj S' ui D.length (fun k => usersIn D inn i (D.getD i []).length k) ∧ Keeps S S' [ui]) ∧
   ∀ J : OnT → List LV → Option R,rounds (G.steps_plan_order_nils.b1 k J) k (pl,(),li,(ui,0,D.length),many,(i : Int),rows,n,ii,ints (D.getD i []),((D.getD i []).length : Int),0,()) S = J (pl,(),li,(ui,0,D.length),many,rows,n,ii,()) S' := by
 have hk' := hk
 unfold Many at hk'
 have hsm := hD.small.get i hi
 refine loop_all (R := R) (b := fun J => G.steps_plan_order_nils.b1 k J) (x := fun t => (pl,(),li,(ui,0,D.length),many,(i : Int),rows,n,ii,ints (D.getD i []),((D.getD i []).length : Int),(t : Int),())) (n := (D.getD i []).length)
  (Inv := fun t S1 => RowsObj S1 ui D.length (fun k => usersIn D inn i t k) ∧ Keeps S S1 [ui])
  (out := fun (J : OnT → List LV → Option R) S' => J (pl,(),li,(ui,0,D.length),many,rows,n,ii,()) S')
  (fun t S1 ht hI => ?_) (fun J rec S1 hI => ?_) k (by omega) S ⟨?_,Keeps.refl _ _⟩
 ·obtain ⟨h1,h2⟩ := hI
  have hkl : (D.getD i []).getD t 0 < D.length := hsm.2 _ (nat_mem _ t ht)
  have hlen : (usersIn D inn i t ((D.getD i []).getD t 0)).length ≤ 500 := by
   have := usersTo_len D inn i ((D.getD i []).getD t 0)
   have h500 := hD.small.1
   unfold usersIn
   rw [List.length_append]
   have h1 : ∀ b : Bool,(cond b [i] []).length ≤ 1 := fun b => by cases b <;> simp
   have h1 := h1 (((D.getD i []).take t).contains ((D.getD i []).getD t 0))
   omega
  refine ⟨S1.set ui (rowsO D.length (updF (fun k => usersIn D inn i t k) ((D.getD i []).getD t 0) (usersIn D inn i t ((D.getD i []).getD t 0) ++ [i]))),⟨?_,h2.trans (Keeps.set _ _ _)⟩,fun J rec => ?_⟩
  ·have e : (updF (fun k => usersIn D inn i t k) ((D.getD i []).getD t 0) (usersIn D inn i t ((D.getD i []).getD t 0) ++ [i])) = fun k => usersIn D inn i (t + 1) k := by
    funext k
    unfold updF usersIn
    rw [take_contains _ t ht]
    by_cases e : k = (D.getD i []).getD t 0
    ·subst e
     rw [nodup_take (hD.get i hi) t ht]; simp
    ·have e0 : (k == (D.getD i []).getD t 0) = false := by simpa using e
     rw [e0,Bool.or_false]; rfl
   show RowsObj _ _ _ (fun k => usersIn D inn i (t + 1) k)
   rw [← e]
   exact RowsObj.of _ _ _ _ (lt_get h1 (by simp))
  ·unfold G.steps_plan_order_nils.b1 G.steps_plan_order_nils.q4 G.steps_plan_order_nils.q5 G.steps_plan_order_nils.q6
   dsimp only
   rw [lt_nat,ifB_pos ht,idxL_nat (by rw [ints_len]; exact ht),ints_get _ t ht,leaf_int]
   refine (RowsObj.app h1 hkl i hlen _).trans ?_
   rw [wrap_succ (by omega)]
 ·unfold G.steps_plan_order_nils.b1 G.steps_plan_order_nils.q4
  dsimp only
  rw [lt_nat,ifB_neg (Nat.lt_irrefl _)]
 ·have e : (fun k => usersIn D inn i 0 k) = usersTo D inn i := by
   funext k
   unfold usersIn
   simp
  rw [e]; exact hS
end
end Go.Lm
set_option maxRecDepth 100000
namespace Go.Lm
section
variable {R : Type}
theorem row_at (D : List (List Nat)) (i : Nat) (hi : i < D.length) (K : List LV → Option R) : (idxL (D.map rowS) (i : Int) fun v => asSl 1 (leaf v 0) K) = K (ints (D.getD i [])) := by
 rw [idxL_nat (by simpa using hi)]
 have e : (D.map rowS).getD i .any = rowS (D.getD i []) := by simp [List.getD_eq_getElem?_getD,hi]
 rw [e]
 exact asSl_sl 1 _ K
theorem left_upd (D : List (List Nat)) (inn : List Bool) (t : Nat) (h : inn.getD t false = true) : updF (leftTo D inn t) t (((D.getD t []).length : Nat) : Int) = leftTo D inn (t + 1) := by
 funext j
 unfold updF leftTo
 by_cases e : j = t
 ·subst e
  rw [beq_self_eq_true,cond_true,decide_eq_true (by omega : j < j + 1),h]; rfl
 ·rw [show (j == t) = false by simpa using e,cond_false]
  by_cases h1 : j < t
  ·rw [decide_eq_true h1,decide_eq_true (by omega : j < t + 1)]
  ·rw [decide_eq_false h1,decide_eq_false (by omega : ¬ j < t + 1)]
theorem users_full (D : List (List Nat)) (inn : List Bool) (t : Nat) (h : inn.getD t false = true) : (fun k => usersIn D inn t (D.getD t []).length k) = usersTo D inn (t + 1) := by
 funext k
 unfold usersIn
 rw [usersTo_succ,List.take_length,h,Bool.true_and]
theorem allTrue (n i : Nat) (h : i < n) : (List.replicate n true).getD i false = true := by simp [List.getD_eq_getElem?_getD,h]
abbrev On0 := (Nat × Nat) × Unit × (Nat × Nat × Nat) × (Nat × Nat × Nat) × Int × Unit
theorem on_b0 {k : Nat} (hk : Many k) (D : List (List Nat)) (hD : Rows D) (pl : Nat × Nat) (li ui : Nat) (hne : li ≠ ui) (S : List LV) (hL : IntsObj S li D.length (leftTo D (List.replicate D.length true) 0)) (hU : RowsObj S ui D.length (usersTo D (List.replicate D.length true) 0)) :
  ∃ S',(IntsObj S' li D.length (leftTo D (List.replicate D.length true) D.length) ∧ RowsObj S' ui D.length (usersTo D (List.replicate D.length true) D.length) ∧ Keeps S S' [li,ui]) ∧
   ∀ J : On0 → List LV → Option R,rounds (G.steps_plan_order_nils.b0 k J) k (pl,(),(li,0,D.length),(ui,0,D.length),0,D.map rowS,(D.length : Int),0,()) S = J (pl,(),(li,0,D.length),(ui,0,D.length),(D.length : Int),()) S' := by
 have hk' := hk
 unfold Many at hk'
 have h500 := hD.small.1
 refine loop_all (R := R) (b := fun J => G.steps_plan_order_nils.b0 k J) (x := fun t => (pl,(),(li,0,D.length),(ui,0,D.length),(t : Int),D.map rowS,(D.length : Int),(t : Int),())) (n := D.length)
  (Inv := fun t S1 => IntsObj S1 li D.length (leftTo D (List.replicate D.length true) t) ∧ RowsObj S1 ui D.length (usersTo D (List.replicate D.length true) t) ∧ Keeps S S1 [li,ui])
  (out := fun (J : On0 → List LV → Option R) S' => J (pl,(),(li,0,D.length),(ui,0,D.length),(D.length : Int),()) S')
  (fun t S1 ht hI => ?_) (fun J rec S1 hI => ?_) k (by omega) S ⟨hL,hU,Keeps.refl _ _⟩
 ·obtain ⟨h1,h2,h3⟩ := hI
  have hin := allTrue D.length t ht
  have hK1 : Keeps S1 (S1.set li (intsO D.length (updF (leftTo D (List.replicate D.length true) t) t (((D.getD t []).length : Nat) : Int)))) [li] := Keeps.set _ _ _
  have hL1 := IntsObj.of S1 li D.length (updF (leftTo D (List.replicate D.length true) t) t (((D.getD t []).length : Nat) : Int)) (lt_get h1 (by simp))
  have hU1 : RowsObj (S1.set li (intsO D.length (updF (leftTo D (List.replicate D.length true) t) t (((D.getD t []).length : Nat) : Int)))) ui D.length (usersTo D (List.replicate D.length true) t) := hK1.get h2 (by simp) (by simp; exact Ne.symm hne)
  obtain ⟨S2,⟨h4,h5⟩,h6⟩ := on_b1 (R := R) hk D hD (List.replicate D.length true) pl (li,0,D.length) ui t ht ((t + 1 : Nat) : Int) (D.map rowS) (D.length : Int) (t : Int) _ hU1
  refine ⟨S2,⟨?_,?_,h3.trans ((hK1.weak (fun m hm => by simp at hm; simp [hm])).trans (h5.weak (fun m hm => by simp at hm; simp [hm])))⟩,fun J rec => ?_⟩
  ·rw [← left_upd D _ t hin]
   exact h5.get hL1 (by simp) (by simp; exact hne)
  ·rw [← users_full D _ t hin]; exact h4
  ·unfold G.steps_plan_order_nils.b0 G.steps_plan_order_nils.q1 G.steps_plan_order_nils.q2 G.steps_plan_order_nils.q3 G.steps_plan_order_nils.q0
   dsimp only
   rw [lt_nat,ifB_pos ht,row_at D t ht,show (true == true) = true from rfl,ifB_true,ifB_true,ints_len,idxN_nat ht]
   refine (IntsObj.st h1 ht _ _).trans ?_
   rw [wrap_succ (by omega)]
   refine (h6 _).trans ?_
   dsimp only
   rw [wrap_succ (by omega)]
 ·unfold G.steps_plan_order_nils.b0
  dsimp only
  rw [lt_nat,ifB_neg (Nat.lt_irrefl _)]
end
end Go.Lm
set_option maxRecDepth 100000
namespace Go.Lm
section
variable {R : Type}
theorem IntsObj.congr {S : List LV} {id n : Nat} {g g' : Nat → Int} (h : IntsObj S id n g) (hg : ∀ i,i < n → g i = g' i) : IntsObj S id n g' := by
 unfold IntsObj at h ⊢
 rw [h]
 congr 1
 exact List.map_congr_left fun i hi => by rw [hg i (List.mem_range.1 hi)]
abbrev OmT := Unit × (Nat × Nat × Nat) × (Nat × Nat × Nat) × Int × (Nat × Nat × Nat) × LL × Unit
theorem on_b4 {k : Nat} (hk : Many k) (n : Nat) (ul : List Nat) (hul : ul.length ≤ 500) (hnd : ul.Nodup) (hlt : ∀ u ∈ ul,u < n) (li : Nat) (ui : Nat × Nat × Nat) (many : Int) (di : Nat × Nat × Nat) (out : LL) (g : Nat → Int) (hg : ∀ i,-1000 ≤ g i ∧ g i ≤ 1000) (S : List LV) (hS : IntsObj S li n g) :
  ∃ S',(IntsObj S' li n (fun i => g i - cond (ul.contains i) 1 0) ∧ Keeps S S' [li]) ∧
   ∀ J : OmT → List LV → Option R,rounds (G.steps_plan_order_nils.b4 k J) k ((),(li,0,n),ui,many,di,out,ints ul,(ul.length : Int),0,()) S = J ((),(li,0,n),ui,many,di,out,()) S' := by
 have hk' := hk
 unfold Many at hk'
 have hl := loop_all (R := R) (b := fun J => G.steps_plan_order_nils.b4 k J) (x := fun t => ((),(li,0,n),ui,many,di,out,ints ul,(ul.length : Int),(t : Int),())) (n := ul.length)
  (Inv := fun t S1 => IntsObj S1 li n (fun i => g i - cond ((ul.take t).contains i) 1 0) ∧ Keeps S S1 [li])
  (out := fun (J : OmT → List LV → Option R) S' => J ((),(li,0,n),ui,many,di,out,()) S')
  (fun t S1 ht hI => ?_) (fun J rec S1 hI => ?_) k (by omega) S ⟨hS.congr (fun i _ => by simp),Keeps.refl _ _⟩
 ·obtain ⟨S',⟨h1,h2⟩,h3⟩ := hl
  rw [List.take_length] at h1
  exact ⟨S',⟨h1,h2⟩,h3⟩
 ·obtain ⟨h1,h2⟩ := hI
  have hu : ul.getD t 0 < n := hlt _ (nat_mem _ t ht)
  have hg1 := hg (ul.getD t 0)
  have h0 : g (ul.getD t 0) - cond ((ul.take t).contains (ul.getD t 0)) 1 0 = g (ul.getD t 0) := by
   rw [nodup_take hnd t ht,cond_false,Int.sub_zero]
  refine ⟨S1.set li (intsO n (updF (fun i => g i - cond ((ul.take t).contains i) 1 0) (ul.getD t 0) (g (ul.getD t 0) - 1))),⟨?_,h2.trans (Keeps.set _ _ _)⟩,fun J rec => ?_⟩
  ·refine (IntsObj.of _ _ _ _ (lt_get h1 (by simp))).congr fun i _ => ?_
   unfold updF
   rw [take_contains _ t ht]
   by_cases e : i = ul.getD t 0
   ·subst e; simp
   ·have e0 : (i == ul.getD t 0) = false := by simpa using e
    rw [e0,Bool.or_false]; rfl
  ·unfold G.steps_plan_order_nils.b4
   dsimp only
   rw [lt_nat,ifB_pos ht,idxL_nat (by rw [ints_len]; exact ht),ints_get _ t ht,leaf_int,idxN_nat hu,IntsObj.ld h1 hu,h0,idxN_nat hu]
   refine (IntsObj.st h1 hu _ _).trans ?_
   rw [wrap_id (n := g (ul.getD t 0) - 1) (by omega) (by omega),wrap_succ (by omega)]
 ·unfold G.steps_plan_order_nils.b4
  dsimp only
  rw [lt_nat,ifB_neg (Nat.lt_irrefl _)]
theorem scan_find {β : Type} (p : Nat → Bool) (f : Nat → β) (n : Nat) : ∀ d i,i + d = n → scan (fun j => cond (p j) (some (f j)) none) (f n) d i = f (((List.range' i d).find? p).getD n)
 | 0,i,h => rfl
 | d + 1,i,h => by
  simp only [scan,List.range'_succ,List.find?_cons]
  cases p i with
  | true => rfl
  | false => exact scan_find p f n d (i + 1) (by omega)
def readyP (g : Nat → Int) (d : List Bool) (i : Nat) : Bool := !(d.getD i false) && decide (g i ≤ 0)
theorem on_b3 {k : Nat} (hk : Many k) (n : Nat) (hn : n ≤ 500) (li di : Nat) (ui : Nat × Nat × Nat) (many : Int) (out : LL) (g : Nat → Int) (d : List Bool) (hd : d.length = n) (S : List LV) (hS : IntsObj S li n g) (hB : BoolsAt S di d) (J : Unit × (Nat × Nat × Nat) × (Nat × Nat × Nat) × Int × (Nat × Nat × Nat) × LL × Int × Unit → List LV → Option R) :
  rounds (G.steps_plan_order_nils.b3 k J) k ((),(li,0,n),ui,many,(di,0,n),out,0,()) S = J ((),(li,0,n),ui,many,(di,0,n),out,((((List.range n).find? (readyP g d)).getD n : Nat) : Int),()) S := by
 unfold Many at hk
 refine (rounds_scan0 (fun t => ((),(li,0,n),ui,many,(di,0,n),out,(t : Int),())) S n k (fun t => cond (readyP g d t) (some (J ((),(li,0,n),ui,many,(di,0,n),out,(t : Int),()) S)) none) (J ((),(li,0,n),ui,many,(di,0,n),out,(n : Int),()) S) (fun rec t ht => ?_) (fun rec => ?_) (by omega)).trans ?_
 ·unfold G.steps_plan_order_nils.b3 G.steps_plan_order_nils.q7
  dsimp only
  rw [lt_nat,ifB_pos ht,idxN_nat ht,BoolsAt.ld hB (by omega)]
  unfold readyP
  cases d.getD t false with
  | true =>
   rw [ifB_true,wrap_succ (by omega)]; rfl
  | false =>
   rw [ifB_false,idxN_nat ht,IntsObj.ld hS ht]
   by_cases hg : g t > 0
   ·rw [decide_eq_true hg,ifB_true,wrap_succ (by omega),decide_eq_false (by omega : ¬ g t ≤ 0)]; rfl
   ·rw [decide_eq_false hg,ifB_false,decide_eq_true (by omega : g t ≤ 0),show (!(true == true)) = false from rfl,ifB_false]; rfl
 ·unfold G.steps_plan_order_nils.b3
  dsimp only
  rw [lt_nat,ifB_neg (Nat.lt_irrefl _)]
 ·rw [scan_find (readyP g d) (fun t => J ((),(li,0,n),ui,many,(di,0,n),out,(t : Int),()) S) n n 0 (by omega),← List.range_eq_range']
def leftD (D : List (List Nat)) (d : List Bool) (i : Nat) : Int := (((D.getD i []).filter fun x => !(d.getD x false)).length : Nat)
theorem ready_good (D : List (List Nat)) (d : List Bool) (i : Nat) (hi : i < D.length) : readyP (leftD D d) d i = goodAt D (List.replicate D.length true) d i := by
 unfold readyP goodAt
 rw [allTrue _ _ hi,Bool.true_and]
 congr 1
 unfold leftD rdyS
 rw [Bool.eq_iff_iff,decide_eq_true_iff,List.all_eq_true]
 constructor
 ·intro h x hx
  have h0 : (D.getD i []).filter (fun x => !(d.getD x false)) = [] := List.eq_nil_of_length_eq_zero (by omega)
  rw [List.filter_eq_nil_iff] at h0
  have := h0 x hx
  simpa using this
 ·intro h
  have h0 : (D.getD i []).filter (fun x => !(d.getD x false)) = [] := List.filter_eq_nil_iff.2 fun x hx => by rw [h x hx]; decide
  rw [h0]; simp
theorem filter_done (d : List Bool) (k : Nat) (hk : k < d.length) (hd : d.getD k false = false) : ∀ (r : List Nat),r.Nodup → (r.filter fun x => !((d.set k true).getD x false)).length + cond (r.contains k) 1 0 = (r.filter fun x => !(d.getD x false)).length
 | [],_ => rfl
 | a :: r,h => by
  have hn := List.nodup_cons.1 h
  have ih := filter_done d k hk hd r hn.2
  by_cases e : a = k
  ·subst e
   have hc : r.contains a = false := by simpa using hn.1
   rw [hc] at ih
   have e1 : (d.set a true).getD a false = true := by simp [List.getD_eq_getElem?_getD,hk]
   simp only [List.filter_cons,e1,hd,List.contains_cons,beq_self_eq_true,Bool.true_or,cond_true,Bool.not_true,Bool.not_false]
   simp only [cond_false] at ih
   simp only [if_true,List.length_cons,Bool.false_eq_true,if_false]
   omega
  ·have e1 : (d.set k true).getD a false = d.getD a false := by
    simp only [List.getD_eq_getElem?_getD,List.getElem?_set_ne (Ne.symm e)]
   have e2 : (k == a) = false := by simp; omega
   simp only [List.filter_cons,e1,List.contains_cons,e2,Bool.false_or]
   cases d.getD a false
   ·simp only [Bool.not_false,if_true,List.length_cons]; omega
   ·simp only [Bool.not_true,Bool.false_eq_true,if_false]; exact ih
theorem users_contains (D : List (List Nat)) (i k : Nat) (hi : i < D.length) : (usersTo D (List.replicate D.length true) D.length k).contains i = (D.getD i []).contains k := by
 unfold usersTo
 rw [Bool.eq_iff_iff,List.contains_iff_mem,List.mem_filter,List.mem_range,allTrue _ _ hi,Bool.true_and]
 exact ⟨fun h => h.2,fun h => ⟨hi,h⟩⟩
theorem left_done (D : List (List Nat)) (hD : Rows D) (d : List Bool) (k : Nat) (hk : k < d.length) (hd : d.getD k false = false) (i : Nat) (hi : i < D.length) :
  leftD D d i - cond ((usersTo D (List.replicate D.length true) D.length k).contains i) 1 0 = leftD D (d.set k true) i := by
 have h := filter_done d k hk hd (D.getD i []) (hD.get i hi)
 rw [users_contains D i k hi]
 unfold leftD
 rw [← h]
 cases (D.getD i []).contains k <;> simp
theorem leftD_le (D : List (List Nat)) (hD : Rows D) (d : List Bool) (i : Nat) : -1000 ≤ leftD D d i ∧ leftD D d i ≤ 1000 := by
 unfold leftD
 have h := List.length_filter_le (fun x => !(d.getD x false)) (D.getD i [])
 have h2 : (D.getD i []).length ≤ 500 := by
  rcases Nat.lt_or_ge i D.length with hi | hi
  ·exact (hD.small.get i hi).1
  ·rw [List.getD_eq_getElem?_getD,List.getElem?_eq_none hi]; simp
 constructor <;> omega
end
end Go.Lm
set_option maxRecDepth 100000
namespace Go.Lm
section
variable {R : Type}
theorem find_congr {p q : Nat → Bool} : ∀ (l : List Nat),(∀ x ∈ l,p x = q x) → l.find? p = l.find? q
 | [],_ => rfl
 | a :: l,h => by
  rw [List.find?_cons,List.find?_cons,h a (by simp),find_congr l fun x hx => h x (by simp [hx])]
theorem all_done {d : List Bool} (h : d.count false = 0) (i : Nat) (hi : i < d.length) : d.getD i false = true := by
 have := List.count_eq_zero.1 h
 rw [List.getD_eq_getElem?_getD,List.getElem?_eq_getElem hi,Option.getD_some]
 cases hb : d[i] with
 | true => rfl
 | false => exact absurd (hb ▸ List.getElem_mem hi) this
theorem some_left {d : List Bool} (h : 0 < d.count false) : ∃ i,i < d.length ∧ d.getD i false = false := by
 have := List.count_pos_iff.1 h
 obtain ⟨i,hi,e⟩ := List.mem_iff_getElem.1 this
 exact ⟨i,hi,by rw [List.getD_eq_getElem?_getD,List.getElem?_eq_getElem hi,Option.getD_some,e]⟩
theorem on_b2 {k : Nat} (hk : Many k) (D : List (List Nat)) (hD : Rows D) (li ui di : Nat) (h1 : li ≠ ui) (h2 : li ≠ di) (h3 : ui ≠ di) :
  ∀ (f : Nat) (d : List Bool) (out : List Nat) (fuel : Nat) (S : List LV),d.length = D.length → d.count false < f → out.length + d.count false = D.length → f ≤ fuel →
   IntsObj S li D.length (leftD D d) → RowsObj S ui D.length (usersTo D (List.replicate D.length true) D.length) → BoolsAt S di d →
   ∃ S',Keeps S S' [li,di] ∧ ∀ q : (LL × Unit → List LV → Option R) × (LL × Bool × Unit → List LV → Option R),
    rounds (G.steps_plan_order_nils.b2 k q.1 q.2) fuel ((),(li,0,D.length),(ui,0,D.length),(D.length : Int),(di,0,D.length),ints out,()) S =
     cond (ordS D (List.replicate D.length true) f d out).2 (q.1 (ints (ordS D (List.replicate D.length true) f d out).1,()) S') (q.2 ([],false,()) S')
 | 0,d,out,fuel,S,hd,hf,ho,hfu,hL,hU,hB => absurd hf (by omega)
 | f + 1,d,out,fuel,S,hd,hf,ho,hfu,hL,hU,hB => by
  obtain ⟨m,rfl⟩ : ∃ m,fuel = m + 1 := ⟨fuel - 1,by omega⟩
  have hlen := hD.small.1
  have hnx : (List.range D.length).find? (readyP (leftD D d) d) = nextS D (List.replicate D.length true) d := by
   unfold nextS
   exact find_congr _ fun x hx => ready_good D d x (List.mem_range.1 hx)
  have hb3 := fun J => on_b3 (R := R) hk D.length hlen li di (ui,0,D.length) (D.length : Int) (ints out) (leftD D d) d hd S hL hB J
  rw [hnx] at hb3
  unfold ordS
  rcases Nat.eq_zero_or_pos (d.count false) with hc | hc
  ·have hn : nextS D (List.replicate D.length true) d = none := by
    unfold nextS
    rw [List.find?_eq_none]
    intro x hx
    unfold goodAt
    rw [all_done hc x (by rw [hd]; exact List.mem_range.1 hx)]
    simp
   have hl : (List.range D.length).any (leftAt (List.replicate D.length true) d) = false := by
    rw [List.any_eq_false]
    intro x hx
    unfold leftAt
    rw [all_done hc x (by rw [hd]; exact List.mem_range.1 hx)]
    simp
   rw [hn,hl]
   refine ⟨S,Keeps.refl _ _,fun q => ?_⟩
   rw [rounds_succ]
   unfold G.steps_plan_order_nils.b2
   dsimp only
   rw [ints_len,lt_nat,ifB_neg (by omega)]
   rfl
  ·have hlt : out.length < D.length := by omega
   cases hn : nextS D (List.replicate D.length true) d with
   | none =>
    have hl : (List.range D.length).any (leftAt (List.replicate D.length true) d) = true := by
     obtain ⟨i,hi,e⟩ := some_left hc
     rw [hd] at hi
     rw [List.any_eq_true]
     refine ⟨i,List.mem_range.2 hi,?_⟩
     unfold leftAt
     rw [e,allTrue _ _ hi]; rfl
    rw [hl]
    rw [hn] at hb3
    refine ⟨S,Keeps.refl _ _,fun q => ?_⟩
    rw [rounds_succ]
    unfold G.steps_plan_order_nils.b2
    dsimp only
    rw [ints_len,lt_nat,ifB_pos hlt]
    refine (hb3 _).trans ?_
    dsimp only [Option.getD_none]
    rw [show ((D.length : Int) == (D.length : Int)) = true from beq_self_eq_true _,ifB_true]
    rfl
   | some i =>
    obtain ⟨hil,hg⟩ := nextS_some hn
    have hdf : d.getD i false = false := by
     unfold goodAt at hg
     simp only [Bool.and_eq_true,Bool.not_eq_true'] at hg
     exact hg.1.2
    have hcs := count_set (d := d) (by omega) hdf
    rw [hn] at hb3
    let S1 := S.set di (.obj 4 (bools (d.set i true)))
    have hK1 : Keeps S S1 [di] := Keeps.set _ _ _
    have hL1 : IntsObj S1 li D.length (leftD D d) := hK1.get hL (by simp) (by simp; exact h2)
    have hU1 : RowsObj S1 ui D.length (usersTo D (List.replicate D.length true) D.length) := hK1.get hU (by simp) (by simp; exact h3)
    have hB1 : BoolsAt S1 di (d.set i true) := hB.set _
    have hul := usersTo_len D (List.replicate D.length true) D.length i
    have hlu : ∀ u ∈ usersTo D (List.replicate D.length true) D.length i,u < D.length := fun u hu => List.mem_range.1 (List.mem_filter.1 hu).1
    obtain ⟨S2,⟨hL2,hK2⟩,hb4⟩ := on_b4 (R := R) hk D.length (usersTo D (List.replicate D.length true) D.length i) (by omega) (List.nodup_range.sublist List.filter_sublist) hlu li (ui,0,D.length) (D.length : Int) (di,0,D.length) (ints (out ++ [i])) (leftD D d) (fun j => leftD_le D hD d j) S1 hL1
    have hL3 : IntsObj S2 li D.length (leftD D (d.set i true)) := hL2.congr fun j hj => left_done D hD d i (by omega) hdf j hj
    have hU2 : RowsObj S2 ui D.length (usersTo D (List.replicate D.length true) D.length) := hK2.get hU1 (by simp) (by simp; exact Ne.symm h1)
    have hB2 : BoolsAt S2 di (d.set i true) := hK2.get hB1 (by simp) (by simp; exact Ne.symm h2)
    obtain ⟨S3,hK3,hr⟩ := on_b2 hk D hD li ui di h1 h2 h3 f (d.set i true) (out ++ [i]) m S2 (by simp [hd]) (by omega) (by simp; omega) (by omega) hL3 hU2 hB2
    refine ⟨S3,((hK1.weak (fun m hm => by simp at hm; simp [hm])).trans (hK2.weak (fun m hm => by simp at hm; simp [hm]))).trans hK3,fun q => ?_⟩
    rw [rounds_succ]
    unfold G.steps_plan_order_nils.b2
    dsimp only
    rw [ints_len,lt_nat,ifB_pos hlt]
    refine (hb3 _).trans ?_
    dsimp only [Option.getD_some]
    rw [show ((i : Int) == (D.length : Int)) = false by simp; omega,ifB_false,idxN_nat hil,hB.st (by omega),app_one (by rw [ints_len]; omega) (by rw [ints_len]; omega),ints_snoc,idxN_nat hil]
    refine (RowsObj.ld hU1 hil _).trans ?_
    rw [ints_len]
    refine (hb4 _).trans ?_
    exact hr q
end
end Go.Lm
set_option maxRecDepth 100000
namespace Go.Lm
section
variable {R : Type}
theorem plan_l (l : List LV) (id : Nat) (deps : LV) (K : List LV → Option R) : ldSl 8 [.sl 8 l,.map id,deps] (0 + 0) K = K l := asSl_sl 8 _ K
theorem plan_deps (l : List LV) (id : Nat) (D : List (List Nat)) (K : List LV → Option R) : ldSl 1 [.sl 8 l,.map id,depsV D] (0 + 2) K = K (D.map rowS) := by
 cases D with
 | nil => rfl
 | cons a D => exact asSl_sl 1 _ K
theorem left_zero (D : List (List Nat)) (n i : Nat) (hi : i < D.length) : leftTo D (List.replicate D.length true) D.length i = leftD D (List.replicate n false) i := by
 unfold leftTo leftD
 rw [decide_eq_true hi,allTrue _ _ hi]
 have e : (D.getD i []).filter (fun x => !((List.replicate n false).getD x false)) = D.getD i [] := List.filter_eq_self.2 fun x _ => by
  rcases Nat.lt_or_ge x n with h | h
  ·simp [List.getD_eq_getElem?_getD,h]
  ·simp [List.getD_eq_getElem?_getD,List.getElem?_eq_none (show (List.replicate n false).length ≤ x by simpa using h)]
 rw [e]; rfl
theorem order_all {k : Nat} (hk : Many k) (l : List Rule) (id : Nat) (f : ByteArray → Option Nat) (D : List (List Nat)) (hD : Rows D) (hl : D.length = l.length) (S : List LV) (hP : PlanAt S id l f (depsV D)) :
  ∃ S',Keeps S S' [] ∧ ∀ K : LL × Bool × Unit → List LV → Option R,G.steps_plan_order_nils.fn k ((id + 1,0),(),()) S K =
   cond (orderedS D (List.replicate D.length true)).2 (K (ints (orderedS D (List.replicate D.length true)).1,true,()) S') (K ([],false,()) S') := by
 have hk' := hk
 unfold Many at hk'
 have h500 := hD.small.1
 have hid := lt_get hP.plan (by simp)
 let S1 := S ++ [intsO D.length (fun _ => 0)]
 let S2 := S1 ++ [rowsO D.length (fun _ => [])]
 have hK1 : Keeps S S1 [] := Keeps.app _ _ _
 have hK2 : Keeps S1 S2 [] := Keeps.app _ _ _
 have hl1 : S1.length = S.length + 1 := by simp [S1]
 have hl2 : S2.length = S.length + 2 := by simp [S2,hl1]
 have hL : IntsObj S2 S.length D.length (leftTo D (List.replicate D.length true) 0) := by
  have h : IntsObj S2 S.length D.length (fun _ => 0) := get_app _ (get_end _ _) (by simp [intsO])
  exact h.congr fun i _ => by simp [leftTo]
 have hU : RowsObj S2 S1.length D.length (usersTo D (List.replicate D.length true) 0) := by
  have h : RowsObj S2 S1.length D.length (fun _ => []) := get_end _ _
  exact h
 obtain ⟨S3,⟨hL3,hU3,hK3⟩,hb0⟩ := on_b0 (R := R) hk D hD (id + 1,0) S.length S1.length (by omega) S2 hL hU
 let S4 := S3 ++ [.obj 4 (bools (List.replicate D.length false))]
 have hK4 : Keeps S3 S4 [] := Keeps.app _ _ _
 have hl3 := hK3.1
 obtain ⟨S5,hK5,hb2⟩ := on_b2 (R := R) hk D hD S.length S1.length S3.length (by omega) (by omega) (by omega) (D.length + 1) (List.replicate D.length false) [] k S4 (by simp) (by simp [List.count_replicate]) (by simp [List.count_replicate]) (by omega)
  ((show IntsObj S4 _ _ _ from hK4.get hL3 (by simp) (by simp)).congr fun i hi => left_zero D D.length i hi) (hK4.get hU3 (by simp) (by simp)) (by unfold BoolsAt; exact get_end _ _)
 have hK : Keeps S S5 [] := by
  refine Keeps.weak (M := [S.length,S1.length,S3.length]) ?_ (fun m hm => by simp at hm; omega)
  exact (hK1.weak (fun m hm => by simp at hm)).trans ((hK2.weak (fun m hm => by simp at hm)).trans ((hK3.weak (fun m hm => .inl (by simp at hm ⊢; omega))).trans ((hK4.weak (fun m hm => by simp at hm)).trans (hK5.weak (fun m hm => .inl (by simp at hm ⊢; omega))))))
 have hp1 : S1.getD (id + 1) .any = .obj 66 [.sl 8 (l.map Rule.lv),.map id,depsV D] := hK1.get hP.plan (by simp) (by simp)
 have hp2 : S2.getD (id + 1) .any = .obj 66 [.sl 8 (l.map Rule.lv),.map id,depsV D] := hK2.get hp1 (by simp) (by simp)
 have hp3 : S3.getD (id + 1) .any = .obj 66 [.sl 8 (l.map Rule.lv),.map id,depsV D] := hK3.get hp2 (by simp) (by simp; omega)
 refine ⟨S5,hK,fun K => ?_⟩
 unfold G.steps_plan_order_nils.fn
 dsimp only
 rw [at_of hP.plan,plan_l,List.length_map,← hl,ifB_pos rfl,mkN_nat (by omega) _ (by omega)]
 unfold newObj
 have e1 : LV.obj 3 (zeros D.length [.int .i64 0]) = intsO D.length (fun _ => 0) := by
  rw [zeros_nil]
  unfold intsO
  congr 1
  rw [List.map_const']
  simp
 have e2 : LV.obj 45 (zeros D.length [.nilsl]) = rowsO D.length (fun _ => []) := by
  rw [zeros_nil]
  unfold rowsO
  congr 1
  show _ = (List.range D.length).map fun _ => LV.nilsl
  rw [List.map_const']
  simp
 rw [e1,show S ++ [intsO D.length (fun _ => 0)] = S1 from rfl]
 dsimp only
 rw [at_of hp1,plan_l,List.length_map,← hl,ifB_pos rfl,mkN_nat (by omega) _ (by omega),e2,show S1 ++ [rowsO D.length (fun _ => [])] = S2 from rfl,at_of hp2,plan_deps,List.length_map]
 refine (hb0 _).trans ?_
 dsimp only
 rw [at_of hp3,plan_l,List.length_map,← hl,ifB_pos rfl,mkN_nat (by omega) _ (by omega),zeros_bool,show S3 ++ [LV.obj 4 (bools (List.replicate D.length false))] = S4 from rfl]
 exact hb2 (_,_)
end
end Go.Lm
set_option maxRecDepth 100000
namespace Go.Lm
section
variable {R : Type}
theorem scanE_all {e : Nat → Option Int} {n : Nat} (h : scanE e n 0 = none) : ∀ j,j < n → e j = none := fun j hj => firstE_none n 0 h j (Nat.zero_le _) (by omega)
theorem scanE_pos {e : Nat → Option Int} (hp : ∀ j r,e j = some r → r ≠ 0) {n : Nat} {r : Int} (h : scanE e n 0 = some r) : r ≠ 0 := firstE_some (P := fun r => r ≠ 0) hp n 0 r h
def Single (l : List Rule) : Prop := ∀ i,i < l.length → ∀ p ∈ (l.getD i .zero).act.outs,outsIn (l.take i) p = false
theorem single_of {l : List Rule} (h : allOutE l = none) : Single l := fun i hi p hp => by
 have h1 := scanE_all h i hi
 obtain ⟨j,hj,e⟩ := List.mem_iff_getElem.1 hp
 have h2 := scanE_all h1 j hj
 have e2 : outAt l i j = p := by
  unfold outAt
  rw [List.getD_eq_getElem?_getD (l := (l.getD i .zero).act.outs),List.getElem?_eq_getElem hj]; exact e
 rw [e2] at h2
 unfold outE at h2
 cases ho : outsIn (l.take i) p with
 | false => rfl
 | true => rw [ho] at h2; cases h2
theorem outsIn_mem {l : List Rule} {i k : Nat} (hk : k < i) (hi : i ≤ l.length) {p : ByteArray} (hp : p ∈ (l.getD k .zero).act.outs) : outsIn (l.take i) p = true := by
 unfold outsIn
 rw [List.any_eq_true]
 refine ⟨l.getD k .zero,?_,(isIn_iff _ _).2 hp⟩
 have hkl : k < l.length := by omega
 rw [List.getD_eq_getElem?_getD,List.getElem?_eq_getElem hkl]
 exact List.mem_iff_getElem.2 ⟨k,by rw [List.length_take]; omega,by simp⟩
theorem ofN_iff {l : List Rule} (hs : Single l) (p : ByteArray) (k : Nat) : ∀ i,i ≤ l.length → (ofN l i p = some k ↔ k < i ∧ p ∈ (l.getD k .zero).act.outs)
 | 0,_ => ⟨fun h => (by cases h),fun h => absurd h.1 (by omega)⟩
 | i + 1,hi => by
  have ih := ofN_iff hs p k i (by omega)
  show cond (isIn (l.getD i .zero).act.outs p) (some i) (ofN l i p) = some k ↔ _
  cases hb : isIn (l.getD i .zero).act.outs p with
  | true =>
   have hm := (isIn_iff _ _).1 hb
   rw [cond_true]
   constructor
   ·intro h; cases h; exact ⟨by omega,hm⟩
   ·rintro ⟨h1,h2⟩
    rcases Nat.lt_or_ge k i with h3 | h3
    ·have := hs i (by omega) p hm
     rw [outsIn_mem h3 (by omega) h2] at this; cases this
    ·have : k = i := by omega
     rw [this]
  | false =>
   rw [cond_false,ih]
   constructor
   ·exact fun h => ⟨by omega,h.2⟩
   ·rintro ⟨h1,h2⟩
    refine ⟨?_,h2⟩
    rcases Nat.lt_or_ge k i with h3 | h3
    ·exact h3
    ·have : k = i := by omega
     subst this
     rw [(isIn_iff _ _).2 h2] at hb; cases hb
theorem deps_needs {l : List Rule} (hs : Single l) : depsTo l l.length = needsAll l := by
 unfold depsTo needsAll
 apply List.map_congr_left
 intro i _
 unfold depsOf needsS needsTo
 apply List.filter_congr
 intro k hk
 have hk := List.mem_range.1 hk
 unfold usesP usesS
 rw [Bool.eq_iff_iff,List.any_eq_true,List.any_eq_true]
 constructor
 ·rintro ⟨p,hp,h⟩
  have := (ofN_iff hs p k l.length (Nat.le_refl _)).1 (of_decide_eq_true h)
  exact ⟨p,this.2,(isIn_iff _ _).2 hp⟩
 ·rintro ⟨q,hq,h⟩
  exact ⟨q,(isIn_iff _ _).1 h,decide_eq_true ((ofN_iff hs q k l.length (Nat.le_refl _)).2 ⟨hk,hq⟩)⟩
theorem needs_rows (l : List Rule) (hn : l.length ≤ 500) : Rows (needsAll l) := by
 refine ⟨needs_small l hn,fun r hr => ?_⟩
 obtain ⟨i,hi,rfl⟩ := List.mem_map.1 hr
 exact List.nodup_range.sublist List.filter_sublist
theorem nameE_pos (l : List Rule) (j : Nat) (r : Int) (h : nameE l j = some r) : r ≠ 0 := by
 unfold nameE at h
 cases h1 : ruleS (l.getD j .zero) == 0 with
 | false => rw [h1] at h; cases h; exact fun e => by rw [e] at h1; cases h1
 | true =>
  rw [h1] at h
  generalize (decide (0 < j) && (strLt (ruleName l j) (ruleName l (j - 1)) || strEq (ruleName l j) (ruleName l (j - 1)))) = b at h
  cases b
  ·cases h
  ·cases h; decide
theorem allOut_pos (l : List Rule) (e : Int) (h : allOutE l = some e) : e ≠ 0 :=
 scanE_pos (fun i r hi => scanE_pos (fun j r hj => outE_pos l i _ r hj) hi) h
theorem ne_beq {e : Int} (h : e ≠ 0) : (e == 0) = false := by simpa using h
theorem prog_open {k : Nat} (hk : Many k) (l : List Rule) (ok : RulesOk l) (S : List LV) :
  ∃ S',Keeps S S' [] ∧ (checkRulesS l = 0 → PlanAt S' S.length l (ofN l l.length) (depsV (needsAll l))) ∧ ∀ K : LV × Int × Unit → List LV → Option R,G.steps_open.fn k (l.map Rule.lv,()) S K =
   cond (checkRulesS l == 0) (K (.ptr (S.length + 1) 0,0,()) S') (K (.nilp,checkRulesS l,()) S') := by
 unfold G.steps_open.fn checkRulesS
 dsimp only
 simp only [List.length_map]
 rw [show decide ((l.length : Int) > 500) = decide (l.length > 500) from gt_nat l.length 500]
 by_cases h : l.length > 500
 ·rw [decide_eq_true h]
  exact ⟨S,Keeps.refl _ _,fun h => (by cases h),fun K => rfl⟩
 ·have hn : l.length ≤ 500 := by omega
  rw [decide_eq_false h]
  simp only [ifB_false,cond_false,op_b0 hk l ok hn]
  cases hnm : firstE (nameE l) l.length with
  | some e =>
   have he : e ≠ 0 := scanE_pos (e := nameE l) (nameE_pos l) hnm
   simp only [Option.map_some,Option.getD_some]
   rw [ne_beq he]
   exact ⟨S,Keeps.refl _ _,fun h => absurd h he,fun K => rfl⟩
  | none =>
   simp only [Option.map_none,Option.getD_none]
   have hr := rules_right hnm
   have fit := rules_fit hn hr
   let S1 := S ++ [.mp .str []] ++ [.obj 66 [.sl 8 (l.map Rule.lv),.map S.length,.nilsl]]
   have hS1 : S1.length = S.length + 2 := by simp [S1]
   have hK1 : Keeps S S1 [] := (Keeps.app _ _ _).trans (Keeps.app _ _ _)
   have hP1 : PlanAt S1 S.length l (ofN l 0) .nilsl := by
    refine ⟨⟨[],get_app _ (get_end _ _) (by simp),fun e he => by simp at he,fun p => rfl⟩,?_⟩
    simp [S1]
   obtain ⟨S2,ids,⟨hA,hT,hK2,hids⟩,h2⟩ := prog_tangleOf (R := R) hk l hn (fun r hr' => (hr r hr').fit) S1
   obtain ⟨S3,hE,hOk,h3⟩ := op_b1 (R := R) hk l fit S.length ids (fun x hx => by have := hids x hx; omega) S2 (hP1.keeps hK2 (by simp) (by simp)) hT
   have e0 : (S ++ [LV.mp .str []]).length = S.length + 1 := by simp
   have hstart : ∀ (K : LV × Int × Unit → List LV → Option R) (J : List LV × (Nat × Nat) × Unit → List LV → Option R),(newObj S (.mp .str []) fun i15 S => newObj S (.obj 66 [.sl 8 (l.map Rule.lv),.map i15,.nilsl]) fun i16 S => G.steps_tangleOf.fn k (l.map Rule.lv,()) S fun r17 S => rounds (G.steps_open.b1 k J (fun o72 S => K (o72.1,o72.2.1,()) S)) k (l.map Rule.lv,(i16,0),(r17.1.1,r17.1.2.1,r17.1.2.2.1,r17.1.2.2.2.1,()),l.map Rule.lv,((l.map Rule.lv).length : Int),0,()) S) =
     (match allOutE l with | some e => K (.nilp,e,()) S3 | none => J (l.map Rule.lv,(S.length + 1,0),()) S3) := fun K J => by
    unfold newObj
    dsimp only
    rw [e0]
    refine (h2 _).trans ?_
    dsimp only
    rw [List.length_map]
    exact h3 (J,fun o72 S => K (o72.1,o72.2.1,()) S)
   cases ho : allOutE l with
   | some e =>
    have he := allOut_pos l e ho
    simp only [Option.getD_some]
    rw [ne_beq he]
    refine ⟨S3,Keeps.weak (M := [S.length]) ?_ (fun m hm => by simp at hm; omega),fun h => absurd h he,fun K => ?_⟩
    ·exact (hK1.weak (fun m hm => by simp at hm)).trans ((hK2.weak (fun m hm => by simp at hm)).trans (hE e ho))
    ·refine (hstart K _).trans ?_
     rw [ho]; rfl
   | none =>
    obtain ⟨hP3,hK3⟩ := hOk ho
    have hsg := single_of ho
    obtain ⟨S4,⟨hP4,hK4⟩,h4⟩ := op_b3 (R := R) hk l fit S.length S3 hP3
    rw [deps_needs hsg] at hP4
    obtain ⟨S5,hK5,h5⟩ := order_all (R := R) hk l S.length (ofN l l.length) (needsAll l) (needs_rows l hn) (needsAll_len l) S4 hP4
    rw [needsAll_len] at h5
    refine ⟨S5,Keeps.weak (M := [S.length,S.length + 1]) ?_ (fun m hm => by simp at hm; omega),fun _ => hP4.keeps hK5 (by simp) (by simp),fun K => ?_⟩
    ·exact (hK1.weak (fun m hm => by simp at hm)).trans ((hK2.weak (fun m hm => by simp at hm)).trans ((hK3.weak (fun m hm => .inl (by simp at hm ⊢; omega))).trans ((hK4.weak (fun m hm => .inl (by simp at hm ⊢; omega))).trans (hK5.weak (fun m hm => by simp at hm)))))
    ·refine (hstart K _).trans ?_
     rw [ho]
     dsimp only
     rw [List.length_map]
     refine (h4 _).trans ?_
     dsimp only
     refine (h5 _).trans ?_
     simp only [Option.getD_none]
     unfold loopS
     cases (orderedS (needsAll l) (List.replicate l.length true)).2 <;> rfl
end
end Go.Lm
set_option maxRecDepth 100000
namespace Go.Lm
section
variable {R : Type}
theorem needs_lt (l : List Rule) (i j : Nat) (hj : j < (needsS l i).length) : (needsS l i).getD j 0 < l.length := by
 have := nat_mem (needsS l i) j hj
 exact List.mem_range.1 (List.mem_filter.1 this).1
theorem name_at (l : List Rule) (i : Nat) (hi : i < l.length) (K : ByteArray → Option R) : (idxL (l.map Rule.lv) (i : Int) fun v => asStr (leaf v 0) K) = K (ruleName l i) := by
 rw [idxL_nat (by simpa using hi),rule_get l i hi]; rfl
theorem small_of {l : List Rule} (h : checkRulesS l = 0) : l.length ≤ 500 := by
 unfold checkRulesS at h
 cases hd : decide (l.length > 500) with
 | true => rw [hd] at h; cases h
 | false => have := of_decide_eq_false hd; omega
end
end Go.Lm
set_option maxRecDepth 100000
namespace Go.Lm
section
variable {R : Type}
structure RuleCp (r : Rule) : Prop where
 fit : ActFit r.act
 ins : r.ins.length * 16 ≤ 140737488351232
theorem ref_CopyRules {k : Nat} (hk : Many k) (l : List Rule) (hl : l.length * 160 ≤ 140737488355328) (hc : ∀ r ∈ l,RuleCp r) (S : List LV) (K : LL × Unit → List LV → Option R) : G.smithyardref6_CopyRules.fn k (l.map Rule.lv,()) S K = K (l.map Rule.lv,()) S := by
 have hk' := hk
 unfold Many at hk'
 unfold G.smithyardref6_CopyRules.fn
 have h0 : ([] : List LV) = (l.map Rule.lv).take 0 := rfl
 dsimp only
 rw [h0]
 refine (rounds_scan0 (fun i => (l.map Rule.lv,(l.map Rule.lv).take i,(i : Int),())) S l.length k (fun _ => none) (K (l.map Rule.lv,()) S) (fun rec i hi => ?_) (fun rec => ?_) (by omega)).trans (scan_none _ _ (fun _ _ _ => rfl))
 ·have hget : ∀ (K : LV → Option R),idxL (l.map Rule.lv) (i : Int) K = K (l.getD i .zero).lv := fun K => by rw [idxL_nat (by simpa using hi),rule_get l i hi]
  have hcp := hc _ (rule_mem l i hi)
  unfold G.smithyardref6_CopyRules.b0 G.smithyardref6_CopyRules.q0
  dsimp only
  rw [List.length_map,lt_nat,ifB_pos hi,hget,rule_name,hget,Rule.mat]
  have e : ∀ K : ByteArray → List LV → List LV → List LV → List LV → Int → Option R,(asStr ((l.getD i .zero).cells.getD 1 .any) fun b => asSl 1 ((l.getD i .zero).cells.getD 2 .any) fun c => asSl 2 ((l.getD i .zero).cells.getD 3 .any) fun d => asSl 1 ((l.getD i .zero).cells.getD 4 .any) fun e => asSl 2 ((l.getD i .zero).cells.getD 5 .any) fun f => asInt .i64 ((l.getD i .zero).cells.getD 6 .any) fun g => K b c d e f g) =
    K (l.getD i .zero).act.tool ((l.getD i .zero).act.cmds.map cmdL) ((l.getD i .zero).act.vars.map varL) ((l.getD i .zero).act.outs.map .str) ((l.getD i .zero).act.needs.map varL) (l.getD i .zero).act.time := fun K => by
   unfold Rule.cells
   simp only [List.getD_cons_zero,List.getD_cons_succ,asStr_str,asInt_int,asSl_sl]
  rw [e,hget,rule_ins]
  refine (ref_CopyAction hk (l.getD i .zero).act hcp.fit S _).trans ?_
  rw [clone_str k _ (by rw [List.length_map]; exact hcp.ins)]
  dsimp only
  rw [app_one (by rw [List.length_take,List.length_map]; omega) (by rw [List.length_take,List.length_map]; omega),wrap_succ (by omega)]
  congr 3
  rw [List.take_add_one,List.getElem?_map,List.getElem?_eq_getElem hi]
  congr 1
  rw [List.getD_eq_getElem?_getD,List.getElem?_eq_getElem hi]
  rfl
 ·unfold G.smithyardref6_CopyRules.b0
  dsimp only
  rw [List.length_map,lt_nat,ifB_neg (Nat.lt_irrefl _),List.take_of_length_le (by simp)]
end
end Go.Lm
set_option maxRecDepth 100000
namespace Go.Lm
section
variable {R : Type}
theorem eq_strs {k : Nat} (hk : Many k) (l : List ByteArray) (hl : l.length ≤ 140737488355328) (S : List LV) (K : Bool × Unit → List LV → Option R) : G.slices_Equal_s_string_string.fn k (l.map .str,l.map .str,()) S K = K (true,()) S := by
 unfold Many at hk
 unfold G.slices_Equal_s_string_string.fn
 dsimp only
 rw [List.length_map,ne_nat,beq_self_eq_true,Bool.not_true,ifB_false]
 refine (rounds_scan0 (fun i => (l.map LV.str,l.map LV.str,(l.length : Int),(i : Int),())) S l.length k (fun _ => none) (K (true,()) S) (fun rec i hi => ?_) (fun rec => ?_) (by omega)).trans (scan_none _ _ (fun _ _ _ => rfl))
 ·unfold G.slices_Equal_s_string_string.b0
  dsimp only
  rw [lt_nat,ifB_pos hi,idxL_nat (by simpa using hi),map_str_get l i hi,asLeaf_str,idxL_nat (by simpa using hi),map_str_get l i hi,asLeaf_str,strEq_refl,Bool.not_true,ifB_false,wrap_succ (by omega)]
 ·unfold G.slices_Equal_s_string_string.b0
  dsimp only
  rw [lt_nat,ifB_neg (Nat.lt_irrefl _)]
structure RuleLen (r : Rule) : Prop where
 act : ActLen r.act 140737488355328
 cmd : ∀ c ∈ r.act.cmds,c.length ≤ 140737488355328
 ins : r.ins.length ≤ 140737488355328
theorem ref_SameRules {k : Nat} (hk : Many k) (l : List Rule) (hl : l.length ≤ 140737488355328) (hr : ∀ r ∈ l,RuleLen r) (S : List LV) (K : Bool × Unit → List LV → Option R) : G.smithyardref6_SameRules.fn k (l.map Rule.lv,l.map Rule.lv,()) S K = K (true,()) S := by
 have hk' := hk
 unfold Many at hk'
 unfold G.smithyardref6_SameRules.fn
 dsimp only
 rw [ne_nat,beq_self_eq_true,Bool.not_true,ifB_false]
 refine (rounds_scan0 (fun i => (l.map Rule.lv,l.map Rule.lv,(i : Int),())) S l.length k (fun _ => none) (K (true,()) S) (fun rec i hi => ?_) (fun rec => ?_) (by omega)).trans (scan_none _ _ (fun _ _ _ => rfl))
 ·have hget : ∀ (K : LV → Option R),idxL (l.map Rule.lv) (i : Int) K = K (l.getD i .zero).lv := fun K => by rw [idxL_nat (by simpa using hi),rule_get l i hi]
  have hln := hr _ (rule_mem l i hi)
  have e : ∀ K : ByteArray → List LV → List LV → List LV → List LV → Int → Option R,(asStr ((l.getD i .zero).cells.getD 1 .any) fun b => asSl 1 ((l.getD i .zero).cells.getD 2 .any) fun c => asSl 2 ((l.getD i .zero).cells.getD 3 .any) fun d => asSl 1 ((l.getD i .zero).cells.getD 4 .any) fun e => asSl 2 ((l.getD i .zero).cells.getD 5 .any) fun f => asInt .i64 ((l.getD i .zero).cells.getD 6 .any) fun g => K b c d e f g) =
    K (l.getD i .zero).act.tool ((l.getD i .zero).act.cmds.map cmdL) ((l.getD i .zero).act.vars.map varL) ((l.getD i .zero).act.outs.map .str) ((l.getD i .zero).act.needs.map varL) (l.getD i .zero).act.time := fun K => by
   unfold Rule.cells
   simp only [List.getD_cons_zero,List.getD_cons_succ,asStr_str,asInt_int,asSl_sl]
  unfold G.smithyardref6_SameRules.b0 G.smithyardref6_SameRules.q0
  dsimp only
  rw [List.length_map,lt_nat,ifB_pos hi,hget,rule_name,hget,rule_name,strEq_refl,Bool.not_true,ifB_false,hget,Rule.mat,e,hget,Rule.mat,e]
  refine (ref_SameAction hk (l.getD i .zero).act hln.act (Nat.le_refl _) hln.cmd S _).trans ?_
  dsimp only
  rw [Bool.not_true,ifB_false,hget,rule_ins,hget,rule_ins,eq_strs hk _ hln.ins]
  dsimp only
  rw [Bool.not_true,ifB_false,wrap_succ (by omega)]
 ·unfold G.smithyardref6_SameRules.b0
  dsimp only
  rw [List.length_map,lt_nat,ifB_neg (Nat.lt_irrefl _)]
structure LawOk (l : List Rule) : Prop where
 ok : RulesOk l
 room : l.length * 160 ≤ 140737488355328
 cp : ∀ r ∈ l,RuleCp r
 len : ∀ r ∈ l,RuleLen r
end
end Go.Lm
set_option maxRecDepth 100000
namespace Go.Lm
section
variable {R : Type}
def NamesRise (l : List Rule) : Prop := ∀ i j,i < j → j < l.length → strLt (ruleName l i) (ruleName l j) = true
theorem names_rise {l : List Rule} (h : firstE (nameE l) l.length = none) : NamesRise l := fun i j hij hj => by
 have h1 : ∀ i,0 < i → i < l.length → strLt (ruleName l (i - 1)) (ruleName l i) = true := fun i h0 hi => (name_none (firstE_none' h i hi)).2 h0
 obtain ⟨d,rfl⟩ : ∃ d,j = i + 1 + d := ⟨j - (i + 1),by omega⟩
 clear hij
 induction d with
 | zero => have := h1 (i + 1) (by omega) hj; simpa using this
 | succ d ih =>
  have h2 := h1 (i + 1 + (d + 1)) (by omega) hj
  rw [show i + 1 + (d + 1) - 1 = i + 1 + d by omega] at h2
  exact strLt_trans (ih (by omega)) h2
theorem NamesRise.inj {l : List Rule} (h : NamesRise l) {i j : Nat} (hi : i < l.length) (hj : j < l.length) (e : ruleName l i = ruleName l j) : i = j := by
 rcases Nat.lt_trichotomy i j with h1 | h1 | h1
 ·have := h i j h1 hj
  rw [e,strLt_irrefl] at this; cases this
 ·exact h1
 ·have := h j i h1 hi
  rw [e,strLt_irrefl] at this; cases this
end
end Go.Lm
set_option maxRecDepth 100000
namespace Go.Lm
theorem set_getD (d : List Bool) (i j : Nat) (h : i < d.length) : (d.set i true).getD j false = (decide (i = j) || d.getD j false) := by
 simp only [List.getD_eq_getElem?_getD,List.getElem?_set]
 by_cases e : i = j
 ·subst e; simp [h]
 ·simp [e]
theorem rep_false (n i : Nat) : (List.replicate n false).getD i false = false := by
 simp only [List.getD_eq_getElem?_getD,List.getElem?_replicate]
 split <;> rfl
def Done (d : List Bool) (out : List Nat) : Prop := ∀ i,d.getD i false = true ↔ i ∈ out
structure Ordered (D : List (List Nat)) (inn : List Bool) (out : List Nat) : Prop where
 nodup : out.Nodup
 mem : ∀ i ∈ out,i < D.length ∧ inn.getD i false = true
 behind : ∀ m,m < out.length → ∀ j ∈ D.getD (out.getD m 0) [],j ∈ out.take m
theorem Ordered.snoc {D : List (List Nat)} {inn : List Bool} {out : List Nat} (h : Ordered D inn out) {i : Nat} (hi : i < D.length) (hn : i ∉ out) (hin : inn.getD i false = true) (hb : ∀ j ∈ D.getD i [],j ∈ out) : Ordered D inn (out ++ [i]) := by
 refine ⟨?_,fun j hj => ?_,fun m hm j hj => ?_⟩
 ·rw [List.nodup_append]
  refine ⟨h.nodup,by simp,fun a ha b hb => ?_⟩
  simp at hb
  subst hb
  exact fun e => hn (e ▸ ha)
 ·rcases List.mem_append.1 hj with h1 | h1
  ·exact h.mem j h1
  ·simp at h1; subst h1; exact ⟨hi,hin⟩
 ·rw [List.length_append] at hm
  simp at hm
  rcases Nat.lt_or_ge m out.length with h1 | h1
  ·rw [List.getD_eq_getElem?_getD (l := out ++ [i]),List.getElem?_append_left h1,← List.getD_eq_getElem?_getD] at hj
   rw [List.take_append_of_le_length (by omega)]
   exact h.behind m h1 j hj
  ·have : m = out.length := by omega
   subst this
   rw [List.getD_eq_getElem?_getD (l := out ++ [i]),List.getElem?_append_right (Nat.le_refl _)] at hj
   simp only [Nat.sub_self,List.getElem?_cons_zero,Option.getD_some] at hj
   rw [List.take_append_of_le_length (Nat.le_refl _),List.take_length]
   exact hb j hj
theorem goodAt_iff {D : List (List Nat)} {inn d : List Bool} {i : Nat} : goodAt D inn d i = true ↔ inn.getD i false = true ∧ d.getD i false = false ∧ ∀ j ∈ D.getD i [],d.getD j false = true := by
 unfold goodAt rdyS
 rw [Bool.and_eq_true,Bool.and_eq_true,Bool.not_eq_true',List.all_eq_true]
 exact ⟨fun h => ⟨h.1.1,h.1.2,h.2⟩,fun h => ⟨⟨h.1,h.2.1⟩,h.2.2⟩⟩
theorem ordS_ok (D : List (List Nat)) (inn : List Bool) : ∀ (f : Nat) (d : List Bool) (out : List Nat),d.length = D.length → d.count false < f → Done d out → Ordered D inn out →
  ∃ d',d'.length = D.length ∧ Done d' (ordS D inn f d out).1 ∧ Ordered D inn (ordS D inn f d out).1 ∧ nextS D inn d' = none ∧ (ordS D inn f d out).2 = !((List.range D.length).any (leftAt inn d'))
 | 0,d,out,hd,hf,_,_ => absurd hf (by omega)
 | f + 1,d,out,hd,hf,hD,hO => by
  unfold ordS
  cases hn : nextS D inn d with
  | none => exact ⟨d,hd,hD,hO,hn,rfl⟩
  | some i =>
   obtain ⟨hil,hg⟩ := nextS_some hn
   obtain ⟨g1,g2,g3⟩ := goodAt_iff.1 hg
   have hc := count_set (d := d) (by omega) g2
   refine ordS_ok D inn f (d.set i true) (out ++ [i]) (by simp [hd]) (by omega) (fun j => ?_) (hO.snoc hil (fun h => ?_) g1 fun j hj => (hD j).1 (g3 j hj))
   ·rw [set_getD d i j (by omega),Bool.or_eq_true,decide_eq_true_iff,hD j,List.mem_append,List.mem_singleton]
    exact ⟨fun h => h.elim (fun h => .inr h.symm) .inl,fun h => h.elim .inr (fun h => .inl h.symm)⟩
   ·rw [(hD i).2 h] at g2; cases g2
theorem orderedS_ok (D : List (List Nat)) (inn : List Bool) : ∃ d',d'.length = D.length ∧ Done d' (orderedS D inn).1 ∧ Ordered D inn (orderedS D inn).1 ∧ nextS D inn d' = none ∧ (orderedS D inn).2 = !((List.range D.length).any (leftAt inn d')) :=
 ordS_ok D inn (D.length + 1) (List.replicate D.length false) [] (by simp) (by simp [List.count_replicate]) (fun i => by rw [rep_false]; simp) ⟨List.nodup_nil,fun i h => by simp at h,fun m h => absurd h (by simp)⟩
theorem orderedS_ordered (D : List (List Nat)) (inn : List Bool) : Ordered D inn (orderedS D inn).1 := by
 obtain ⟨d',_,_,h,_⟩ := orderedS_ok D inn
 exact h
inductive Reach (D : List (List Nat)) (st : List Nat) : Nat → Prop
 | start {i : Nat} : i ∈ st → Reach D st i
 | need {i j : Nat} : Reach D st i → j ∈ D.getD i [] → Reach D st j
structure Marks (D : List (List Nat)) (st : List Nat) (d : List Bool) : Prop where
 len : d.length = D.length
 iff : ∀ i,d.getD i false = true ↔ Reach D st i
theorem Marks.of {D : List (List Nat)} {st : List Nat} {d : List Bool} (hl : d.length = D.length) (hr : ∀ i,d.getD i false = true → Reach D st i) (hs : ∀ i ∈ st,d.getD i false = true) (hc : ∀ i,d.getD i false = true → ∀ j ∈ D.getD i [],d.getD j false = true) : Marks D st d := by
 refine ⟨hl,fun i => ⟨hr i,fun h => ?_⟩⟩
 induction h with
 | start h => exact hs _ h
 | need _ hj ih => exact hc _ ih _ hj
end Go.Lm
set_option maxRecDepth 100000
namespace Go.Lm
section
variable {R : Type}
def TodoAt (b : Nat) (S : List LV) (v : LV) (T : List Nat) : Prop := (v = .nilsl ∧ T = []) ∨ ∃ id rest,b ≤ id ∧ v = .osl id 0 1 T.length ∧ S.getD id .any = .vec 3 (ints T ++ rest)
theorem flat_ints (l : List Nat) : flatC 1 (ints l) = ints l := by
 unfold flatC ints
 rw [show Nat.beq 1 1 = true from rfl]
 dsimp only
 rw [List.map_map]; rfl
theorem fits_ok {n m : Nat} (h : n + m ≤ 1000000) : fitsB n m 8 = true := by
 unfold fitsB
 exact decide_eq_true ⟨by omega,by omega⟩
theorem TodoAt.push {b : Nat} {S : List LV} {v : LV} {T : List Nat} (h : TodoAt b S v T) (hb : b ≤ S.length) (ys : List Nat) (hne : v = .nilsl → ys ≠ []) (hl : T.length + ys.length ≤ 1000000) :
  ∃ v' S',TodoAt b S' v' (T ++ ys) ∧ (∀ j,j < b → S'.getD j .any = S.getD j .any) ∧ S.length ≤ S'.length ∧ ∀ K : LV → List LV → Option R,appO 3 1 8 S v (ints ys) K = K v' S' := by
 rcases h with ⟨rfl,rfl⟩ | ⟨id,rest,hid,rfl,hS⟩
 ·refine ⟨.osl S.length 0 1 ys.length,S ++ [.vec 3 (ints ys)],.inr ⟨S.length,[],hb,rfl,by rw [List.append_nil]; exact get_end _ _⟩,fun j hj => (Keeps.app S [.vec 3 (ints ys)] []).2 j (by omega) (by simp),by simp,fun K => ?_⟩
  have h0 : 0 < ys.length := List.length_pos_iff.2 (hne rfl)
  unfold appO
  dsimp only
  rw [ints_len,show (Nat.blt 0 1 && Nat.blt 0 ys.length && fitsB 0 ys.length 8) = true by rw [show Nat.blt 0 ys.length = true from Nat.ble_eq_true_of_le h0,fits_ok (by simp at hl; omega)]; rfl,ifB_true,flat_ints]
 ·refine ⟨.osl S.length 0 1 (T.length + ys.length),S.set id .any ++ [.vec 3 (ints T ++ ints ys)],.inr ⟨S.length,[],hb,by rw [List.length_append],?_⟩,fun j hj => ?_,by simp,fun K => ?_⟩
  ·rw [List.append_nil]
   have := get_end (S.set id .any) (.vec 3 (ints T ++ ints ys))
   rw [List.length_set] at this
   rw [this]
   unfold ints
   rw [List.map_append]
  ·rcases Nat.lt_or_ge j S.length with h1 | h1
   ·rw [(Keeps.app (S.set id .any) [.vec 3 (ints T ++ ints ys)] []).2 j (by simpa using h1) (by simp)]
    exact other_set (by omega) _
   ·omega
  ·unfold appO
   dsimp only
   unfold cellsAt
   rw [hS]
   dsimp only
   rw [show (Nat.beq 3 3 && Nat.beq 0 0 && Nat.beq 1 1 && Nat.blt 0 1 && Nat.ble (T.length * 1) (ints T ++ rest).length && fitsB T.length (ints ys).length 8) = true by
    rw [ints_len,fits_ok hl,show Nat.ble (T.length * 1) (ints T ++ rest).length = true from Nat.ble_eq_true_of_le (by rw [List.length_append,ints_len]; omega)]; rfl,ifB_true,flat_ints,Nat.mul_one,ints_len]
   have : (ints T ++ rest).take T.length = ints T := by rw [← ints_len T,List.take_left]
   rw [this]
theorem TodoAt.keeps {b : Nat} {S S' : List LV} {v : LV} {T : List Nat} (h : TodoAt b S v T) {M : List Nat} (hk : Keeps S S' M) (hm : ∀ m ∈ M,m < b) : TodoAt b S' v T := by
 rcases h with h | ⟨id,rest,hid,hv,hS⟩
 ·exact .inl h
 ·exact .inr ⟨id,rest,hid,hv,hk.get hS (by simp) fun hc => by have := hm id hc; omega⟩
end
end Go.Lm
set_option maxRecDepth 100000
namespace Go.Lm
section
variable {R : Type}
theorem take_snoc (l : List Nat) (t : Nat) (h : t < l.length) : l.take (t + 1) = l.take t ++ [l.getD t 0] := by
 rw [List.take_add_one,List.getElem?_eq_getElem h,List.getD_eq_getElem?_getD,List.getElem?_eq_getElem h]; rfl
end
end Go.Lm
set_option maxRecDepth 100000
namespace Go.Lm
section
variable {R : Type}
theorem ordS_len (D : List (List Nat)) (inn : List Bool) : ∀ (f : Nat) (d : List Bool) (out : List Nat),d.length = D.length → out.length + d.count false ≤ D.length → (ordS D inn f d out).1.length ≤ D.length
 | 0,d,out,hd,ho => by show out.length ≤ _; omega
 | f + 1,d,out,hd,ho => by
  unfold ordS
  cases hn : nextS D inn d with
  | none => show out.length ≤ _; omega
  | some i =>
   obtain ⟨hil,hg⟩ := nextS_some hn
   have hc := count_set (d := d) (by omega) (goodAt_iff.1 hg).2.1
   exact ordS_len D inn f (d.set i true) (out ++ [i]) (by simp [hd]) (by simp; omega)
theorem orderedS_len (D : List (List Nat)) (inn : List Bool) : (orderedS D inn).1.length ≤ D.length :=
 ordS_len D inn _ _ _ (by simp) (by simp [List.count_replicate])
def namesOf (l : List Rule) (x : List Nat) : List LV := x.map fun i => .str (ruleName l i)
theorem namesOf_len (l : List Rule) (x : List Nat) : (namesOf l x).length = x.length := by simp [namesOf]
theorem namesOf_snoc (l : List Rule) (x : List Nat) (i : Nat) : namesOf l x ++ [.str (ruleName l i)] = namesOf l (x ++ [i]) := by simp [namesOf]
theorem names_noId (n : Nat) (l : List Rule) (x : List Nat) : (namesOf l x).all (noId n) = true := by
 unfold namesOf
 rw [List.all_map,List.all_eq_true]
 intro i _
 cases n <;> rfl
theorem check_ok {l : List Rule} (h : checkRulesS l = 0) : NamesRise l ∧ l.length ≤ 500 ∧ allOutE l = none ∧ (orderedS (needsAll l) (List.replicate l.length true)).2 = true := by
 have hn := small_of h
 unfold checkRulesS at h
 rw [decide_eq_false (by omega),cond_false] at h
 cases hf : firstE (nameE l) l.length with
 | some e => rw [hf] at h; exact absurd h (scanE_pos (e := nameE l) (nameE_pos l) hf)
 | none =>
  rw [hf] at h
  simp only [Option.getD_none] at h
  cases ho : allOutE l with
  | some e => rw [ho] at h; exact absurd h (allOut_pos l e ho)
  | none =>
   rw [ho] at h
   simp only [Option.getD_none] at h
   refine ⟨names_rise hf,hn,rfl,?_⟩
   unfold loopS at h
   cases hc : (orderedS (needsAll l) (List.replicate l.length true)).2 with
   | true => rfl
   | false => rw [hc] at h; cases h
end
end Go.Lm
set_option maxRecDepth 100000
namespace Go.Lm
section
variable {R : Type}
theorem str_get (l : List ByteArray) (i : Nat) (h : i < l.length) (K : ByteArray → Option R) : (idxL (l.map LV.str) (i : Int) fun v => asStr (leaf v 0) K) = K (l.getD i (bs [])) := by
 rw [idxL_nat (by simpa using h),map_str_get l i h,asLeaf_str]
theorem int_get (l : List Nat) (i : Nat) (h : i < l.length) (K : Int → Option R) : (idxL (ints l) (i : Int) fun v => asInt .i64 (leaf v 0) K) = K ((l.getD i 0 : Nat) : Int) := by
 rw [idxL_nat (by rw [ints_len]; exact h),ints_get l i h,leaf_int]
theorem scan_hit {α : Type} (z : α) (p : α → Bool) (K : Int → Option R) : ∀ (l m : List α),decide (0 ≤ m.length) = true → ∃ n : Int,(decide (n ≥ 0) = l.any p) ∧ scan (fun j => cond (p ((m ++ l).getD j z)) (some (K (j : Int))) none) (K (-1)) l.length m.length = K n
 | [],m,_ => ⟨-1,rfl,rfl⟩
 | a :: l,m,_ => by
  have hg : (m ++ a :: l).getD m.length z = a := by simp [List.getD_eq_getElem?_getD]
  rw [List.length_cons]
  simp only [scan]
  rw [hg,List.any_cons]
  cases h : p a with
  | true => exact ⟨(m.length : Int),by simp,rfl⟩
  | false =>
   obtain ⟨n,h1,h2⟩ := scan_hit z p K l (m ++ [a]) (by simp)
   refine ⟨n,by rw [h1,Bool.false_or],?_⟩
   rw [List.length_append,List.append_assoc] at h2
   exact h2
theorem con_str {k : Nat} (hk : Many k) {S : List LV} {i3 m2 : Nat} (h3 : S.getD i3 .any = .obj 77 [.map m2]) {P : ByteArray → Bool} (hM : IsSet S m2 P) (q : List ByteArray) (hq : q.length ≤ 1000) (K : Bool × Unit → List LV → Option R) :
  G.slices_ContainsFunc_s_string_string_at_steps_Suspects_1.fn k (q.map .str,((i3,0),()),()) S K = K (q.any P,()) S := by
 unfold Many at hk
 unfold G.slices_ContainsFunc_s_string_string_at_steps_Suspects_1.fn G.slices_IndexFunc_s_string_string_at_steps_Suspects_1.fn
 dsimp only
 obtain ⟨n,h1,h2⟩ := scan_hit (bs []) P (fun n => K (decide (n ≥ 0),()) S) q [] rfl
 rw [← h1,List.length_map]
 refine (rounds_scan0 (fun i => (q.map LV.str,((i3,0),()),(q.length : Int),(i : Int),())) S q.length k (fun j => cond (P (q.getD j (bs []))) (some (K (decide ((j : Int) ≥ 0),()) S)) none) (K (decide ((-1 : Int) ≥ 0),()) S) (fun rec i hi => ?_) (fun rec => ?_) (by omega)).trans h2
 ·unfold G.slices_IndexFunc_s_string_string_at_steps_Suspects_1.b0 G.steps_Suspects_1.fn
  dsimp only
  rw [lt_nat,ifB_pos hi,str_get q i hi,at_of h3]
  have e : ∀ K : LV → Option R,ldRaw [.map m2] 0 K = K (.map m2) := fun K => rfl
  rw [e,asMap_map,hM.get,wrap_succ (by omega)]
  cases P (q.getD i (bs [])) <;> rfl
 ·unfold G.slices_IndexFunc_s_string_string_at_steps_Suspects_1.b0
  dsimp only
  rw [lt_nat,ifB_neg (Nat.lt_irrefl _)]
theorem con_int {k : Nat} (hk : Many k) {S : List LV} {i19 i18 n : Nat} (h3 : S.getD i19 .any = .obj 74 [.osl i18 0 1 n]) {d : List Bool} (hd : d.length = n) (hB : BoolsAt S i18 d) (q : List Nat) (hq : q.length ≤ 500) (hl : ∀ x ∈ q,x < n) (K : Bool × Unit → List LV → Option R) :
  G.slices_ContainsFunc_s_int_int_at_steps_Suspects_2.fn k (ints q,((i19,0),()),()) S K = K (q.any fun j => d.getD j false,()) S := by
 unfold Many at hk
 unfold G.slices_ContainsFunc_s_int_int_at_steps_Suspects_2.fn G.slices_IndexFunc_s_int_int_at_steps_Suspects_2.fn
 dsimp only
 obtain ⟨m,h1,h2⟩ := scan_hit 0 (fun j => d.getD j false) (fun n => K (decide (n ≥ 0),()) S) q [] rfl
 rw [← h1,ints_len]
 refine (rounds_scan0 (fun i => (ints q,((i19,0),()),(q.length : Int),(i : Int),())) S q.length k (fun j => cond (d.getD (q.getD j 0) false) (some (K (decide ((j : Int) ≥ 0),()) S)) none) (K (decide ((-1 : Int) ≥ 0),()) S) (fun rec i hi => ?_) (fun rec => ?_) (by omega)).trans h2
 ·have hx := hl _ (nat_mem q i hi)
  unfold G.slices_IndexFunc_s_int_int_at_steps_Suspects_2.b0 G.steps_Suspects_2.fn
  dsimp only
  rw [lt_nat,ifB_pos hi,int_get q i hi,at_of h3]
  have e : ∀ (A : Nat → Nat → Nat → Nat → Option R) (B : Option R),(ldRaw [.osl i18 0 1 n] 0 fun v => oslOr v A B) = A i18 0 1 n := fun A B => rfl
  rw [e]
  try dsimp only
  rw [show Nat.beq 1 1 = true from rfl,ifB_true,idxN_nat hx,hB.ld (by omega),wrap_succ (by omega)]
  cases d.getD (q.getD i 0) false <;> rfl
 ·unfold G.slices_IndexFunc_s_int_int_at_steps_Suspects_2.b0
  dsimp only
  rw [lt_nat,ifB_neg (Nat.lt_irrefl _)]
def hitOne (l : List Rule) (w : List ByteArray) (d : List Bool) (i : Nat) : List Bool := d.set i ((l.getD i .zero).ins.any (isIn w) || (needsS l i).any fun j => d.getD j false)
def hitsAll (l : List Rule) (w : List ByteArray) (x : List Nat) : List Bool := x.foldl (hitOne l w) (List.replicate l.length false)
theorem hitOne_len (l : List Rule) (w : List ByteArray) : ∀ (x : List Nat) (d : List Bool),(x.foldl (hitOne l w) d).length = d.length
 | [],d => rfl
 | i :: x,d => by rw [List.foldl_cons,hitOne_len l w x]; simp [hitOne]
def fltB (d : List Bool) (n : Nat) : List Nat := (List.range n).filter fun i => d.getD i false
theorem fltB_succ (d : List Bool) (n : Nat) : fltB d (n + 1) = cond (d.getD n false) (fltB d n ++ [n]) (fltB d n) := by
 unfold fltB
 rw [List.range_succ,List.filter_append,List.filter_cons]
 cases d.getD n false <;> simp
theorem fltB_len (d : List Bool) (n : Nat) : (fltB d n).length ≤ n := by
 have := List.length_filter_le (fun i => d.getD i false) (List.range n)
 rw [List.length_range] at this
 exact this
def suspS (l : List Rule) (w : List ByteArray) : List Nat × Int := cond (checkRulesS l == 0) (cond (decide (w.length > 1000)) ([],2) (cond (w.all isPathS) (fltB (hitsAll l w (orderedS (needsAll l) (List.replicate l.length true)).1) l.length,0) ([],3))) ([],checkRulesS l)
def pathE (w : List ByteArray) (j : Nat) : Option Unit := cond (isPathS (w.getD j (bs []))) none (some ())
theorem pathE_none {w : List ByteArray} : ∀ (d i : Nat),i + d = w.length → (scanE (pathE w) d i = none ↔ (w.drop i).all isPathS = true)
 | 0,i,h => by
  rw [scanE_zero,List.drop_of_length_le (by omega)]
  simp
 | d + 1,i,h => by
  have hi : i < w.length := by omega
  rw [List.drop_eq_getElem_cons hi,List.all_cons]
  have hg : w.getD i (bs []) = w[i] := by rw [List.getD_eq_getElem?_getD,List.getElem?_eq_getElem hi]; rfl
  cases hp : isPathS w[i] with
  | true =>
   rw [scanE_none (by unfold pathE; rw [hg,hp]; rfl),pathE_none d (i + 1) (by omega),Bool.true_and]
  | false =>
   rw [scanE_some (r := ()) (by unfold pathE; rw [hg,hp]; rfl),Bool.false_and]
   simp
theorem ss_b1 {k : Nat} (hk : Many k) {l : List Rule} (fit : RulesFit l) {id : Nat} {f : ByteArray → Option Nat} (w : List ByteArray) (x : List Nat) (hx : ∀ i ∈ x,i < l.length) (hxl : x.length ≤ 500) (i3 m2 i19 i18 : Nat) (hne : i18 ≠ i19 ∧ i18 ≠ i3 ∧ i18 ≠ m2 ∧ i18 ≠ id ∧ i18 ≠ id + 1) (S : List LV) (hP : PlanAt S id l f (depsV (needsAll l)))
  (h3 : S.getD i3 .any = .obj 77 [.map m2]) (hM : IsSet S m2 (isIn w)) (h4 : S.getD i19 .any = .obj 74 [.osl i18 0 1 l.length]) (hB : BoolsAt S i18 (List.replicate l.length false)) :
  ∃ S',(BoolsAt S' i18 (hitsAll l w x) ∧ Keeps S S' [i18]) ∧ ∀ J : LL × N2 × Unit → List LV → Option R,rounds (G.steps_Suspects.b1 k J) k (l.map Rule.lv,(id + 1,0),(i3,0),(i19,0),ints x,(x.length : Int),0,()) S = J (l.map Rule.lv,(i19,0),()) S' := by
 have hk' := hk
 unfold Many at hk'
 have hn := fit.n
 have hl := loop_all (R := R) (b := fun J => G.steps_Suspects.b1 k J) (x := fun t => (l.map Rule.lv,(id + 1,0),(i3,0),(i19,0),ints x,(x.length : Int),(t : Int),())) (n := x.length)
  (Inv := fun t S1 => BoolsAt S1 i18 (hitsAll l w (x.take t)) ∧ Keeps S S1 [i18])
  (out := fun (J : LL × N2 × Unit → List LV → Option R) S' => J (l.map Rule.lv,(i19,0),()) S')
  (fun t S1 ht hI => ?_) (fun J rec S1 hI => ?_) k (by omega) S ⟨hB,Keeps.refl _ _⟩
 ·obtain ⟨S',⟨a,b⟩,c⟩ := hl
  rw [List.take_length] at a
  exact ⟨S',⟨a,b⟩,c⟩
 ·obtain ⟨hB1,hK⟩ := hI
  have hxt := hx _ (nat_mem x t ht)
  have hP1 := hP.keeps hK (by simp; exact Ne.symm hne.2.2.2.1) (by simp; exact Ne.symm hne.2.2.2.2)
  have h31 := hK.get h3 (by simp) (by simp; exact Ne.symm hne.2.1)
  have hM1 := hM.keeps hK (by simp; exact Ne.symm hne.2.2.1)
  have h41 := hK.get h4 (by simp) (by simp; exact Ne.symm hne.1)
  have hdl : (hitsAll l w (x.take t)).length = l.length := by unfold hitsAll; rw [hitOne_len]; simp
  have hh : hitsAll l w (x.take (t + 1)) = hitOne l w (hitsAll l w (x.take t)) (x.getD t 0) := by
   unfold hitsAll
   rw [take_snoc x t ht,List.foldl_append]; rfl
  have hrow : (needsAll l).getD (x.getD t 0) [] = needsS l (x.getD t 0) := by generalize x.getD t 0 = z at hxt; simp [needsAll,List.getD_eq_getElem?_getD,hxt]
  have hsm := (needs_small l hn).get (x.getD t 0) (by rw [needsAll_len]; exact hxt)
  rw [hrow,needsAll_len] at hsm
  have e : ∀ (A : Nat → Nat → Nat → Nat → Option R) (B : Option R),oslOr (.osl i18 0 1 l.length) A B = A i18 0 1 l.length := fun A B => rfl
  have eR : ∀ (K : LV → Option R),ldRaw [.osl i18 0 1 l.length] 0 K = K (.osl i18 0 1 l.length) := fun K => rfl
  refine ⟨S1.set i18 (.obj 4 (bools (hitsAll l w (x.take (t + 1))))),⟨hB1.set _,hK.trans (Keeps.set _ _ _)⟩,fun J rec => ?_⟩
  unfold G.steps_Suspects.b1
  dsimp only
  rw [lt_nat,ifB_pos ht,int_get x t ht,idxL_nat (by simpa using hxt),rule_get l _ hxt,rule_ins,at_of h41,eR]
  refine (con_str hk h31 hM1 _ (fit.fit _ (rule_mem l _ hxt)).im _).trans ?_
  dsimp only
  rw [quiR_same,hh]
  unfold hitOne
  cases ha : (l.getD (x.getD t 0) .zero).ins.any (isIn w) with
  | true =>
   rw [ifB_true,e]
   try dsimp only
   rw [show Nat.beq 1 1 = true from rfl,ifB_true,idxN_nat hxt,hB1.st (by omega),wrap_succ (by omega),Bool.true_or]
  | false =>
   rw [ifB_false,at_of hP1.plan,plan_deps,row_at (needsAll l) _ (by rw [needsAll_len]; exact hxt),hrow]
   refine (con_int hk h41 hdl hB1 _ hsm.1 hsm.2 _).trans ?_
   dsimp only
   rw [quiR_same,e]
   try dsimp only
   rw [show Nat.beq 1 1 = true from rfl,ifB_true,idxN_nat hxt,hB1.st (by omega),wrap_succ (by omega),Bool.false_or]
 ·unfold G.steps_Suspects.b1
  dsimp only
  rw [lt_nat,ifB_neg (Nat.lt_irrefl _)]
theorem ss_b2 {k : Nat} (hk : Many k) (l : List Rule) (hn : l.length ≤ 500) (d : List Bool) (hd : d.length = l.length) (i18 : Nat) (S : List LV) (hB : BoolsAt S i18 d) (J : LL × Unit → List LV → Option R) :
  rounds (G.steps_Suspects.b2 k J) k (l.map Rule.lv,[],.osl i18 0 1 l.length,(l.length : Int),0,()) S = J (namesOf l (fltB d l.length),()) S := by
 have hk' := hk
 unfold Many at hk'
 refine (rounds_scan0 (fun t => (l.map Rule.lv,namesOf l (fltB d t),LV.osl i18 0 1 l.length,(l.length : Int),(t : Int),())) S l.length k (fun _ => none) (J (namesOf l (fltB d l.length),()) S) (fun rec t ht => ?_) (fun rec => ?_) (by omega)).trans (scan_none _ _ (fun _ _ _ => rfl))
 ·have e : ∀ (A : Nat → Nat → Nat → Nat → Option R) (B : Option R),oslOr (.osl i18 0 1 l.length) A B = A i18 0 1 l.length := fun A B => rfl
  have hfl := fltB_len d t
  unfold G.steps_Suspects.b2
  dsimp only
  rw [lt_nat,ifB_pos ht,e]
  try dsimp only
  rw [show Nat.beq 1 1 = true from rfl,ifB_true,idxN_nat ht,hB.ld (by omega),fltB_succ,wrap_succ (by omega)]
  cases d.getD t false with
  | false => rfl
  | true => rw [ifB_true,name_at l t ht,app_one (by rw [namesOf_len]; omega) (by rw [namesOf_len]; omega),namesOf_snoc]; rfl
 ·unfold G.steps_Suspects.b2
  dsimp only
  rw [lt_nat,ifB_neg (Nat.lt_irrefl _)]
abbrev SsJ (R : Type) := (LL × LV × N2 × Unit → List LV → Option R) × (LL × Int × Unit → List LV → Option R)
theorem ss_b0 {k : Nat} (hk : Many k) (ls : LL) (pv : LV) (w : List ByteArray) (hw : w.length ≤ 1000) (i3 m2 : Nat) (hne : i3 ≠ m2) (S : List LV) (h3 : S.getD i3 .any = .obj 77 [.map m2]) (hM : IsSet S m2 (fun _ => false)) :
  ∃ S',Keeps S S' [m2] ∧ (w.all isPathS = true → IsSet S' m2 (isIn w)) ∧ ∀ q : SsJ R,rounds (G.steps_Suspects.b0 k q.1 q.2) k (ls,pv,(i3,0),w.map .str,(w.length : Int),0,()) S = cond (w.all isPathS) (q.1 (ls,pv,(i3,0),()) S') (q.2 ([],3,()) S') := by
 have hk' := hk
 unfold Many at hk'
 have hl := loop_inv (R := R) (ε := Unit) (b := fun (q : SsJ R) => G.steps_Suspects.b0 k q.1 q.2) (x := fun j => (ls,pv,(i3,0),w.map LV.str,(w.length : Int),(j : Int),())) (n := w.length)
  (Inv := fun j S1 => IsSet S1 m2 (isIn (w.take j)) ∧ Keeps S S1 [m2]) (PE := fun _ S1 => Keeps S S1 [m2]) (e := pathE w)
  (out := fun q o S' => match o with | some _ => q.2 ([],3,()) S' | none => q.1 (ls,pv,(i3,0),()) S')
  (fun j S1 hj hI => ?_) (fun q rec S1 hI => ?_) w.length 0 k S (by omega) (by omega) ⟨hM.congr (fun p => rfl),Keeps.refl _ _⟩
 ·obtain ⟨S',h1,h2,h4⟩ := hl
  have hp := pathE_none (w := w) w.length 0 (by omega)
  rw [List.drop_zero] at hp
  cases hs : scanE (pathE w) w.length 0 with
  | none =>
   rw [hs] at h4
   obtain ⟨a,b⟩ := h2 hs
   rw [List.take_length] at a
   rw [hp.1 hs]
   exact ⟨S',b,fun _ => a,h4⟩
  | some r =>
   rw [hs] at h4
   have hf : w.all isPathS = false := by
    cases hw : w.all isPathS with
    | false => rfl
    | true => rw [hp.2 hw] at hs; cases hs
   rw [hf]
   exact ⟨S',h1 r hs,fun h => (by cases h),h4⟩
 ·obtain ⟨hM1,hK⟩ := hI
  have h31 := hK.get h3 (by simp) (by simp; exact hne)
  have htk : w.take (j + 1) = w.take j ++ [w.getD j (bs [])] := by rw [List.take_add_one,List.getElem?_eq_getElem hj,List.getD_eq_getElem?_getD,List.getElem?_eq_getElem hj]; rfl
  have eR : ∀ (K : LV → Option R),ldRaw [.map m2] 0 K = K (.map m2) := fun K => rfl
  have hgo : ∀ (q : SsJ R) rec,G.steps_Suspects.b0 k q.1 q.2 rec (ls,pv,(i3,0),w.map LV.str,(w.length : Int),(j : Int),()) S1 =
    ifB (!(isPathS (w.getD j (bs [])))) (q.2 ([],3,()) S1) (mpAt S1 m2 .str fun m => setS (S1.set m2 (.mp .str (mapPut m (.str (w.getD j (bs []))) (.bool true)))) fun S => rec (ls,pv,(i3,0),w.map LV.str,(w.length : Int),((j + 1 : Nat) : Int),()) S) := fun q rec => by
   unfold G.steps_Suspects.b0
   dsimp only
   rw [lt_nat,ifB_pos hj,str_get w j hj,prog_IsPath hk]
   dsimp only
   rw [at_of h31,eR,asMap_map,wrap_succ (by omega)]
  unfold pathE
  cases hp : isPathS (w.getD j (bs [])) with
  | false =>
   refine ⟨fun r hr => ⟨S1,hK,fun q rec => ?_⟩,fun h => by cases h⟩
   rw [hgo,hp]; rfl
  | true =>
   refine ⟨fun r hr => (by cases hr),fun _ => ?_⟩
   obtain ⟨S2,g1,g2,g3⟩ := hM1.put (R := R) (w.getD j (bs []))
   refine ⟨S2,⟨g1.congr fun p => ?_,hK.trans g2⟩,fun q rec => ?_⟩
   ·rw [htk]
    unfold isIn
    rw [List.any_append]
    simp
   ·rw [hgo,hp]
    exact g3 _
 ·unfold G.steps_Suspects.b0
  dsimp only
  rw [lt_nat,ifB_neg (Nat.lt_irrefl _)]
theorem susp_lt (l : List Rule) : ∀ i ∈ (orderedS (needsAll l) (List.replicate l.length true)).1,i < l.length := fun i h => by
 have := ((orderedS_ordered (needsAll l) (List.replicate l.length true)).mem i h).1
 rw [needsAll_len] at this
 exact this
theorem prog_Suspects {k : Nat} (hk : Many k) (l : List Rule) (ok : RulesOk l) (w : List ByteArray) (S : List LV) (K : LL × Int × Unit → List LV → Option R) : G.steps_Suspects.fn k (l.map Rule.lv,w.map .str,()) S K = K (namesOf l (suspS l w).1,(suspS l w).2,()) S := by
 have hrun : ∃ S',Keeps S S' [] ∧ ∀ K : LL × Int × Unit → List LV → Option (LV × List LV),G.steps_Suspects.fn0 k (l.map Rule.lv,w.map .str,()) S K = K (namesOf l (suspS l w).1,(suspS l w).2,()) S' := by
  obtain ⟨S1,hK1,hP1,h1⟩ := prog_open (R := LV × List LV) hk l ok S
  unfold G.steps_Suspects.fn0 suspS
  dsimp only
  have hwl : ((w.map LV.str).length : Int) = (w.length : Int) := by simp
  rw [hwl,show decide ((w.length : Int) > 1000) = decide (w.length > 1000) from gt_nat w.length 1000]
  by_cases hc : checkRulesS l = 0
  ·rw [hc]
   rw [hc] at h1
   have h1 : ∀ K : LV × Int × Unit → List LV → Option (LV × List LV),G.steps_open.fn k (l.map Rule.lv,()) S K = K (.ptr (S.length + 1) 0,0,()) S1 := h1
   obtain ⟨_,hn,_,hall⟩ := check_ok hc
   have fit : RulesFit l := by
    unfold checkRulesS at hc
    rw [decide_eq_false (by omega),cond_false] at hc
    cases hf : firstE (nameE l) l.length with
    | some e => rw [hf] at hc; exact absurd hc (scanE_pos (e := nameE l) (nameE_pos l) hf)
    | none => exact rules_fit hn (rules_right hf)
   have hP := hP1 hc
   have hlt := lt_get hP.plan (by simp)
   show ∃ S',Keeps S S' [] ∧ ∀ K : LL × Int × Unit → List LV → Option (LV × List LV),_ = K (namesOf l (cond (decide (w.length > 1000)) ([],2) (cond (w.all isPathS) (fltB (hitsAll l w (orderedS (needsAll l) (List.replicate l.length true)).1) l.length,0) ([],3))).1,(cond (decide (w.length > 1000)) ([],2) (cond (w.all isPathS) (fltB (hitsAll l w (orderedS (needsAll l) (List.replicate l.length true)).1) l.length,0) ([],3))).2,()) S'
   by_cases hw : w.length > 1000
   ·rw [decide_eq_true hw]
    exact ⟨S1,hK1,fun K => (h1 _).trans rfl⟩
   ·rw [decide_eq_false hw]
    let S2 := S1 ++ [.mp .str []] ++ [.obj 77 [.map S1.length]]
    have hK2 : Keeps S1 S2 [] := (Keeps.app _ _ _).trans (Keeps.app _ _ _)
    have hl2 : S2.length = S1.length + 2 := by simp [S2]
    have h32 : S2.getD (S1.length + 1) .any = .obj 77 [.map S1.length] := by
     have := get_end (S1 ++ [.mp .str []]) (.obj 77 [.map S1.length])
     rw [List.length_append] at this
     exact this
    have hM2 : IsSet S2 S1.length (fun _ => false) := (IsSet.empty S1).keeps (Keeps.app _ [.obj 77 [.map S1.length]] []) (by simp)
    have hmk : ∀ K : Nat → List LV → Option (LV × List LV),(newObj S1 (.mp .str []) fun i2 S => newObj S (.obj 77 [.nilm]) fun i3 S => objAt S i3 fun ty c4 => stO c4 0 [(.map i2)] fun c5 => setS (S.set i3 (ty c5)) fun S => K i3 S) = K (S1.length + 1) S2 := fun K => by
     unfold newObj
     dsimp only
     have e0 : (S1 ++ [LV.mp .str []]).length = S1.length + 1 := by simp
     have e1 : (S1 ++ [LV.mp .str []] ++ [LV.obj 77 [LV.nilm]]).getD (S1 ++ [LV.mp .str []]).length .any = .obj 77 [.nilm] := get_end _ _
     rw [at_of e1]
     have e2 : ∀ K : List LV → Option (LV × List LV),stO [.nilm] 0 [.map S1.length] K = K [.map S1.length] := fun K => rfl
     rw [e2,setS_of]
     have e3 : (S1 ++ [LV.mp .str []] ++ [LV.obj 77 [.nilm]]).set (S1 ++ [LV.mp .str []]).length (.obj 77 [.map S1.length]) = S2 := by simp [S2]
     rw [e3,e0]
    obtain ⟨S3,a1,a2,a3⟩ := ss_b0 (R := LV × List LV) hk (l.map Rule.lv) (.ptr (S.length + 1) 0) w (by omega) (S1.length + 1) S1.length (by omega) S2 h32 hM2
    cases hp : w.all isPathS with
    | false =>
     refine ⟨S3,Keeps.weak (M := [S1.length]) ((hK1.weak (fun m hm => by simp at hm)).trans ((hK2.weak (fun m hm => by simp at hm)).trans a1)) (fun m hm => by simp at hm; have := hK1.1; omega),fun K => ?_⟩
     refine (h1 _).trans ?_
     dsimp only
     rw [show ((0 : Int) != 0) = false from rfl,ifB_false,ifB_false]
     refine (hmk _).trans ?_
     refine (a3 (_,K)).trans ?_
     rw [hp]; rfl
    | true =>
     have hP3 : PlanAt S3 S.length l (ofN l l.length) (depsV (needsAll l)) := (hP.keeps hK2 (by simp) (by simp)).keeps a1 (by simp; omega) (by simp; omega)
     obtain ⟨S4,b1,b2⟩ := order_all (R := LV × List LV) hk l S.length (ofN l l.length) (needsAll l) (needs_rows l hn) (needsAll_len l) S3 hP3
     rw [needsAll_len,hall] at b2
     let S5 : List LV := S4 ++ [LV.obj 4 (bools (List.replicate l.length false))] ++ [LV.obj 74 [LV.osl S4.length 0 1 l.length]]
     have hK5 : Keeps S4 S5 [] := (Keeps.app _ _ _).trans (Keeps.app _ _ _)
     have hl3 := a1.1
     have hl4 := b1.1
     have hB5 : BoolsAt S5 S4.length (List.replicate l.length false) := get_app _ (get_end _ _) (by simp)
     have h45 : S5.getD (S4.length + 1) .any = .obj 74 [.osl S4.length 0 1 l.length] := by
      have := get_end (S4 ++ [.obj 4 (bools (List.replicate l.length false))]) (.obj 74 [.osl S4.length 0 1 l.length])
      rw [List.length_append] at this
      exact this
     have hK35 : Keeps S3 S5 [] := b1.trans hK5
     have h35 : S5.getD (S1.length + 1) .any = .obj 77 [.map S1.length] := hK35.get (a1.get h32 (by simp) (by simp)) (by simp) (by simp)
     have hlen := orderedS_len (needsAll l) (List.replicate l.length true)
     rw [needsAll_len] at hlen
     obtain ⟨S6,⟨c1,c2⟩,c3⟩ := ss_b1 (R := LV × List LV) hk fit w (orderedS (needsAll l) (List.replicate l.length true)).1 (susp_lt l) (by omega) (S1.length + 1) S1.length (S4.length + 1) S4.length ⟨by omega,by omega,by omega,by omega,by omega⟩ S5 (hP3.keeps hK35 (by simp) (by simp)) h35 ((a2 hp).keeps hK35 (by simp)) h45 hB5
     have h46 : S6.getD (S4.length + 1) .any = .obj 74 [.osl S4.length 0 1 l.length] := c2.get h45 (by simp) (by simp)
     refine ⟨S6,Keeps.weak (M := [S1.length,S4.length]) ?_ (fun m hm => by simp at hm; have := hK1.1; omega),fun K => ?_⟩
     ·exact (hK1.weak (fun m hm => by simp at hm)).trans ((hK2.weak (fun m hm => by simp at hm)).trans ((a1.weak (fun m hm => .inl (by simp at hm ⊢; omega))).trans ((hK35.weak (fun m hm => by simp at hm)).trans (c2.weak (fun m hm => .inl (by simp at hm ⊢; omega))))))
     ·refine (h1 _).trans ?_
      dsimp only
      rw [show ((0 : Int) != 0) = false from rfl,ifB_false,ifB_false]
      refine (hmk _).trans ?_
      refine (a3 (_,K)).trans ?_
      rw [hp,cond_true]
      try dsimp only
      refine (b2 _).trans ?_
      rw [cond_true]
      dsimp only
      rw [ifB_pos rfl,List.length_map,mkN_nat (by omega) _ (by omega)]
      unfold newObj
      dsimp only
      have e0 : (S4 ++ [LV.obj 4 (bools (List.replicate l.length false))]).length = S4.length + 1 := by simp
      have e1 : (S4 ++ [LV.obj 4 (bools (List.replicate l.length false))] ++ [LV.obj 74 [LV.nilsl]]).getD (S4 ++ [LV.obj 4 (bools (List.replicate l.length false))]).length .any = .obj 74 [.nilsl] := get_end _ _
      rw [zeros_bool,at_of e1]
      have e2 : ∀ K : List LV → Option (LV × List LV),stO [.nilsl] 0 [.osl S4.length 0 1 l.length] K = K [.osl S4.length 0 1 l.length] := fun K => rfl
      rw [e2,setS_of]
      have e3 : (S4 ++ [LV.obj 4 (bools (List.replicate l.length false))] ++ [LV.obj 74 [.nilsl]]).set (S4 ++ [LV.obj 4 (bools (List.replicate l.length false))]).length (.obj 74 [.osl S4.length 0 1 l.length]) = S5 := by simp [S5]
      rw [e3,e0,ints_len]
      refine (c3 _).trans ?_
      dsimp only
      rw [at_of h46]
      have eR : ∀ (K : LV → Option (LV × List LV)),ldRaw [.osl S4.length 0 1 l.length] 0 K = K (.osl S4.length 0 1 l.length) := fun K => rfl
      have eL : ∀ (K : Nat → Option (LV × List LV)),lenO (.osl S4.length 0 1 l.length) K = K l.length := fun K => rfl
      rw [eR,eL]
      exact ss_b2 hk l hn _ (by unfold hitsAll; rw [hitOne_len]; simp) S4.length S6 c1 _
  ·refine ⟨S1,hK1,fun K => ?_⟩
   refine (h1 _).trans ?_
   rw [ne_beq hc,cond_false]
   dsimp only
   rw [ne0,ne_beq hc]; rfl
 obtain ⟨S',hK,h⟩ := hrun
 obtain ⟨G',hG⟩ := hK.grown
 unfold G.steps_Suspects.fn
 refine popK_at (rs := G.steps_Suspects.rs) (r := ((namesOf l (suspS l w).1,(suspS l w).2,()) : LL × Int × Unit)) (G := G') ?_ ?_
 ·rw [← hG]; exact h _
 ·show ([LV.own 9 1 (namesOf l (suspS l w).1),.int .i64 (suspS l w).2].all (noId 5)) = true
  have h : noId 5 (LV.own 9 1 (namesOf l (suspS l w).1)) = true := names_noId 4 _ _
  rw [List.all_cons,h]; rfl
end
end Go.Lm
set_option maxRecDepth 100000
namespace Go.Lm
section
variable {R : Type}
theorem setB_same (d : List Bool) (x : Nat) (h : x < d.length) : d.set x (d.getD x false) = d := by
 rw [List.getD_eq_getElem?_getD,List.getElem?_eq_getElem h,Option.getD_some,List.set_getElem_self]
theorem set_get' (d : List Bool) (x y : Nat) (v : Bool) (h : x < d.length) : (d.set x v).getD y false = cond (decide (x = y)) v (d.getD y false) := by
 simp only [List.getD_eq_getElem?_getD,List.getElem?_set]
 by_cases e : x = y
 ·subst e; simp [h]
 ·simp [e]
theorem any_snoc {α : Type} (l : List α) (z : α) (t : Nat) (h : t < l.length) (p : α → Bool) : (l.take (t + 1)).any p = ((l.take t).any p || p (l.getD t z)) := by
 have : l.take (t + 1) = l.take t ++ [l.getD t z] := by rw [List.take_add_one,List.getElem?_eq_getElem h,List.getD_eq_getElem?_getD,List.getElem?_eq_getElem h]; rfl
 rw [this,List.any_append]; simp
abbrev RsT := LL × LL × LL × LL × N3 × Int × Int × Unit
theorem rs_b2' {k : Nat} (hk : Many k) (l : List Rule) (w : List ByteArray) (hw : w.length ≤ 1000) (rows xs : LL) (at_ : Int) (x : Nat) (hx : x < l.length) (him : (l.getD x .zero).ins.length ≤ 1000) (id : Nat) (d : List Bool) (hd : d.length = l.length) (S : List LV) (hB : BoolsAt S id d) :
  ∃ S',(BoolsAt S' id (d.set x (d.getD x false || (l.getD x .zero).ins.any (isIn w))) ∧ Keeps S S' [id]) ∧ ∀ J : RsT → List LV → Option R,rounds (G.smithyardref6_Suspects.b2 k J) k (l.map Rule.lv,w.map .str,rows,xs,(id,0,l.length),at_,(x : Int),0,()) S = J (l.map Rule.lv,w.map .str,rows,xs,(id,0,l.length),at_,(x : Int),()) S' := by
 have hk' := hk
 unfold Many at hk'
 have hxd : x < d.length := by omega
 have hl := loop_all (R := R) (b := fun J => G.smithyardref6_Suspects.b2 k J) (x := fun t => (l.map Rule.lv,w.map LV.str,rows,xs,(id,0,l.length),at_,(x : Int),(t : Int),())) (n := (l.getD x .zero).ins.length)
  (Inv := fun t S1 => BoolsAt S1 id (d.set x (d.getD x false || ((l.getD x .zero).ins.take t).any (isIn w))) ∧ Keeps S S1 [id])
  (out := fun (J : RsT → List LV → Option R) S' => J (l.map Rule.lv,w.map .str,rows,xs,(id,0,l.length),at_,(x : Int),()) S')
  (fun t S1 ht hI => ?_) (fun J rec S1 hI => ?_) k (by omega) S ⟨by rw [List.take_zero,List.any_nil,Bool.or_false,setB_same d x hxd]; exact hB,Keeps.refl _ _⟩
 ·obtain ⟨S',⟨a,b⟩,c⟩ := hl
  rw [List.take_length] at a
  exact ⟨S',⟨a,b⟩,c⟩
 ·obtain ⟨hB1,hK⟩ := hI
  have hget : ∀ K : LL → Option R,(idxL (l.map Rule.lv) (x : Int) fun v => asSl 1 (leaf v 7) K) = K ((l.getD x .zero).ins.map .str) := fun K => by rw [idxL_nat (by simpa using hx),rule_get l x hx,rule_ins]
  refine ⟨S1.set id (.obj 4 (bools (d.set x (d.getD x false || ((l.getD x .zero).ins.take (t + 1)).any (isIn w))))),⟨hB1.set _,hK.trans (Keeps.set _ _ _)⟩,fun J rec => ?_⟩
  unfold G.smithyardref6_Suspects.b2 G.smithyardref6_Suspects.q0
  dsimp only
  have hl1 : (d.set x (d.getD x false || ((l.getD x .zero).ins.take t).any (isIn w))).length = l.length := by simp [hd]
  rw [hget,List.length_map,lt_nat,ifB_pos ht,idxN_nat hx,hB1.ld (by rw [hl1]; exact hx),set_get' d x x _ hxd,decide_eq_true rfl,cond_true,any_snoc _ (bs []) t ht,← Bool.or_assoc,wrap_succ (by omega)]
  generalize (d.getD x false || ((l.getD x .zero).ins.take t).any (isIn w)) = b at hB1 hl1 ⊢
  cases b with
  | true =>
   rw [ifB_true,idxN_nat hx,hB1.st (by rw [hl1]; exact hx),List.set_set,Bool.true_or]
  | false =>
   rw [ifB_false,hget,str_get _ t ht]
   refine (ref_has hk w (by omega) _ S1 _).trans ?_
   dsimp only
   rw [idxN_nat hx,hB1.st (by rw [hl1]; exact hx),List.set_set,Bool.false_or]
 ·unfold G.smithyardref6_Suspects.b2
  dsimp only
  rw [idxL_nat (by simpa using hx),rule_get l x hx,rule_ins,List.length_map,lt_nat,ifB_neg (Nat.lt_irrefl _)]
abbrev RsU := LL × LL × LL × LL × N3 × Int × Unit
theorem rs_b3' {k : Nat} (hk : Many k) (l : List Rule) (hn : l.length ≤ 500) (w xs : LL) (at_ : Int) (x : Nat) (hx : x < l.length) (id : Nat) (d : List Bool) (hd : d.length = l.length) (b : Bool) (hb : b = false → d.getD x false = false) (S : List LV) (hB : BoolsAt S id (d.set x b)) :
  ∃ S',(BoolsAt S' id (d.set x (b || (needsS l x).any fun j => d.getD j false)) ∧ Keeps S S' [id]) ∧ ∀ J : RsU → List LV → Option R,rounds (G.smithyardref6_Suspects.b3 k J) k (l.map Rule.lv,w,refRows l,xs,(id,0,l.length),at_,(x : Int),0,()) S = J (l.map Rule.lv,w,refRows l,xs,(id,0,l.length),at_,()) S' := by
 have hk' := hk
 unfold Many at hk'
 have hxd : x < d.length := by omega
 have hrl : (refRows l).length = l.length := by simp [refRows]
 have hrow : ∀ K : LL → Option R,(idxL (refRows l) (x : Int) fun v => asSl 1 (leaf v 0) K) = K (ints (needsS l x)) := fun K => by
  rw [idxL_nat (by rw [hrl]; exact hx),(refRows_at l).2 x (by rw [needsAll_len]; exact hx)]
  simp [needsAll,List.getD_eq_getElem?_getD,hx]
 have hnl := needsTo_len l x l.length
 have hl := loop_all (R := R) (b := fun J => G.smithyardref6_Suspects.b3 k J) (x := fun t => (l.map Rule.lv,w,refRows l,xs,(id,0,l.length),at_,(x : Int),(t : Int),())) (n := (needsS l x).length)
  (Inv := fun t S1 => BoolsAt S1 id (d.set x (b || ((needsS l x).take t).any fun j => d.getD j false)) ∧ Keeps S S1 [id])
  (out := fun (J : RsU → List LV → Option R) S' => J (l.map Rule.lv,w,refRows l,xs,(id,0,l.length),at_,()) S')
  (fun t S1 ht hI => ?_) (fun J rec S1 hI => ?_) k (by unfold needsS; omega) S ⟨by rw [List.take_zero,List.any_nil,Bool.or_false]; exact hB,Keeps.refl _ _⟩
 ·obtain ⟨S',⟨a,b⟩,c⟩ := hl
  rw [List.take_length] at a
  exact ⟨S',⟨a,b⟩,c⟩
 ·obtain ⟨hB1,hK⟩ := hI
  have hy := needs_lt l x t ht
  have htl : t < 9223372036854775807 := by unfold needsS at ht; omega
  refine ⟨S1.set id (.obj 4 (bools (d.set x (b || ((needsS l x).take (t + 1)).any fun j => d.getD j false)))),⟨hB1.set _,hK.trans (Keeps.set _ _ _)⟩,fun J rec => ?_⟩
  unfold G.smithyardref6_Suspects.b3 G.smithyardref6_Suspects.q1
  dsimp only
  have hl1 : (d.set x (b || ((needsS l x).take t).any fun j => d.getD j false)).length = l.length := by simp [hd]
  have hb1 : (b || ((needsS l x).take t).any fun j => d.getD j false) = false → d.getD x false = false := fun h => hb (Bool.or_eq_false_iff.1 h).1
  rw [hrow,ints_len,lt_nat,ifB_pos ht,idxN_nat hx,hB1.ld (by rw [hl1]; exact hx),set_get' d x x _ hxd,decide_eq_true rfl,cond_true,any_snoc _ 0 t ht,← Bool.or_assoc,wrap_succ htl]
  generalize (b || ((needsS l x).take t).any fun j => d.getD j false) = c at hB1 hl1 hb1 ⊢
  cases c with
  | true =>
   rw [ifB_true,idxN_nat hx,hB1.st (by rw [hl1]; exact hx),List.set_set,Bool.true_or]
  | false =>
   have hrd : (d.set x false).getD ((needsS l x).getD t 0) false = d.getD ((needsS l x).getD t 0) false := by
    rw [set_get' d x _ _ hxd]
    by_cases e : x = (needsS l x).getD t 0
    ·rw [decide_eq_true e,cond_true,← e,hb1 rfl]
    ·rw [decide_eq_false e,cond_false]
   rw [ifB_false,hrow,int_get _ t ht,idxN_nat hy,hB1.ld (by rw [hl1]; exact hy),hrd,idxN_nat hx,hB1.st (by rw [hl1]; exact hx),List.set_set,Bool.false_or]
 ·unfold G.smithyardref6_Suspects.b3
  dsimp only
  rw [hrow,ints_len,lt_nat,ifB_neg (Nat.lt_irrefl _)]
def refOne (l : List Rule) (w : List ByteArray) (d : List Bool) (i : Nat) : List Bool := d.set i ((d.getD i false || (l.getD i .zero).ins.any (isIn w)) || (needsS l i).any fun j => d.getD j false)
theorem refOne_len (l : List Rule) (w : List ByteArray) : ∀ (x : List Nat) (d : List Bool),(x.foldl (refOne l w) d).length = d.length
 | [],d => rfl
 | i :: x,d => by rw [List.foldl_cons,refOne_len l w x]; simp [refOne]
theorem ref_hits (l : List Rule) (w : List ByteArray) : ∀ (x : List Nat) (d : List Bool),x.Nodup → (∀ i ∈ x,d.getD i false = false ∧ i < d.length) → x.foldl (refOne l w) d = x.foldl (hitOne l w) d
 | [],d,_,_ => rfl
 | i :: x,d,hn,hd => by
  obtain ⟨h1,h2⟩ := List.nodup_cons.1 hn
  obtain ⟨h3,h4⟩ := hd i (by simp)
  have e : refOne l w d i = hitOne l w d i := by unfold refOne hitOne; rw [h3,Bool.false_or]
  rw [List.foldl_cons,List.foldl_cons,e]
  refine ref_hits l w x _ h2 fun j hj => ?_
  obtain ⟨h5,h6⟩ := hd j (by simp [hj])
  have hne : i ≠ j := fun e => h1 (e ▸ hj)
  unfold hitOne
  rw [set_get' d i j _ h4,decide_eq_false hne]
  exact ⟨h5,by simpa using h6⟩
theorem rs_b1' {k : Nat} (hk : Many k) (l : List Rule) (fit : RulesFit l) (w : List ByteArray) (hw : w.length ≤ 1000) (x : List Nat) (hx : ∀ i ∈ x,i < l.length) (hxl : x.length ≤ 500) (id : Nat) (S : List LV) (hB : BoolsAt S id (List.replicate l.length false)) :
  ∃ S',(BoolsAt S' id (x.foldl (refOne l w) (List.replicate l.length false)) ∧ Keeps S S' [id]) ∧ ∀ J : LL × N3 × Unit → List LV → Option R,rounds (G.smithyardref6_Suspects.b1 k J) k (l.map Rule.lv,w.map .str,refRows l,ints x,(id,0,l.length),0,()) S = J (l.map Rule.lv,(id,0,l.length),()) S' := by
 have hk' := hk
 unfold Many at hk'
 have hl := loop_all (R := R) (b := fun J => G.smithyardref6_Suspects.b1 k J) (x := fun t => (l.map Rule.lv,w.map LV.str,refRows l,ints x,(id,0,l.length),(t : Int),())) (n := x.length)
  (Inv := fun t S1 => BoolsAt S1 id ((x.take t).foldl (refOne l w) (List.replicate l.length false)) ∧ Keeps S S1 [id])
  (out := fun (J : LL × N3 × Unit → List LV → Option R) S' => J (l.map Rule.lv,(id,0,l.length),()) S')
  (fun t S1 ht hI => ?_) (fun J rec S1 hI => ?_) k (by omega) S ⟨hB,Keeps.refl _ _⟩
 ·obtain ⟨S',⟨a,b⟩,c⟩ := hl
  rw [List.take_length] at a
  exact ⟨S',⟨a,b⟩,c⟩
 ·obtain ⟨hB1,hK⟩ := hI
  have hxt := hx _ (nat_mem x t ht)
  have hdl : ((x.take t).foldl (refOne l w) (List.replicate l.length false)).length = l.length := by rw [refOne_len]; simp
  rw [take_snoc x t ht,List.foldl_append]
  generalize (x.take t).foldl (refOne l w) (List.replicate l.length false) = d at hB1 hdl ⊢
  obtain ⟨S2,⟨a1,a2⟩,a3⟩ := rs_b2' (R := R) hk l w hw (refRows l) (ints x) (t : Int) (x.getD t 0) hxt (fit.fit _ (rule_mem l _ hxt)).im id d hdl S1 hB1
  obtain ⟨S3,⟨b1,b2⟩,b3⟩ := rs_b3' (R := R) hk l fit.n (w.map .str) (ints x) (t : Int) (x.getD t 0) hxt id d hdl _ (fun h => (Bool.or_eq_false_iff.1 h).1) S2 a1
  refine ⟨S3,⟨b1,hK.trans (a2.trans b2)⟩,fun J rec => ?_⟩
  unfold G.smithyardref6_Suspects.b1
  dsimp only
  rw [ints_len,lt_nat,ifB_pos ht,int_get x t ht]
  refine (a3 _).trans ?_
  dsimp only
  refine (b3 _).trans ?_
  dsimp only
  rw [wrap_succ (by omega)]
 ·unfold G.smithyardref6_Suspects.b1
  dsimp only
  rw [ints_len,lt_nat,ifB_neg (Nat.lt_irrefl _)]
theorem rs_b4' {k : Nat} (hk : Many k) (l : List Rule) (hn : l.length ≤ 500) (d : List Bool) (hd : d.length = l.length) (id : Nat) (S : List LV) (hB : BoolsAt S id d) (J : LL × Unit → List LV → Option R) :
  rounds (G.smithyardref6_Suspects.b4 k J) k (l.map Rule.lv,(id,0,l.length),[],0,()) S = J (namesOf l (fltB d l.length),()) S := by
 have hk' := hk
 unfold Many at hk'
 refine (rounds_scan0 (fun t => (l.map Rule.lv,(id,0,l.length),namesOf l (fltB d t),(t : Int),())) S l.length k (fun _ => none) (J (namesOf l (fltB d l.length),()) S) (fun rec t ht => ?_) (fun rec => ?_) (by omega)).trans (scan_none _ _ (fun _ _ _ => rfl))
 ·have hfl := fltB_len d t
  unfold G.smithyardref6_Suspects.b4 G.smithyardref6_Suspects.q2
  dsimp only
  rw [List.length_map,lt_nat,ifB_pos ht,idxN_nat ht,hB.ld (by omega),fltB_succ,wrap_succ (by omega)]
  cases d.getD t false with
  | false => rfl
  | true => rw [ifB_true,name_at l t ht,app_one (by rw [namesOf_len]; omega) (by rw [namesOf_len]; omega),namesOf_snoc]; rfl
 ·unfold G.smithyardref6_Suspects.b4
  dsimp only
  rw [List.length_map,lt_nat,ifB_neg (Nat.lt_irrefl _)]
theorem scan_paths {β : Type} (w : List ByteArray) (a fin : β) : ∀ d i,i + d = w.length → scan (fun j => cond (isPathS (w.getD j (bs []))) none (some a)) fin d i = cond ((w.drop i).all isPathS) fin a
 | 0,i,h => by rw [List.drop_of_length_le (by omega)]; rfl
 | d + 1,i,h => by
  have hi : i < w.length := by omega
  have hg : w.getD i (bs []) = w[i] := by rw [List.getD_eq_getElem?_getD,List.getElem?_eq_getElem hi]; rfl
  rw [List.drop_eq_getElem_cons hi,List.all_cons]
  simp only [scan]
  rw [hg]
  cases hp : isPathS w[i] with
  | true =>
   rw [Bool.true_and]
   exact scan_paths w a fin d (i + 1) (by omega)
  | false => rfl
theorem rs_b0' {k : Nat} (hk : Many k) (ls : LL) (w : List ByteArray) (hw : w.length ≤ 1000) (S : List LV) (J : LL × LL × Unit → List LV → Option R) (Jr : LL × Int × Unit → List LV → Option R) :
  rounds (G.smithyardref6_Suspects.b0 k J Jr) k (ls,w.map .str,0,()) S = cond (w.all isPathS) (J (ls,w.map .str,()) S) (Jr ([],3,()) S) := by
 have hk' := hk
 unfold Many at hk'
 refine (rounds_scan0 (fun j => (ls,w.map LV.str,(j : Int),())) S w.length k (fun j => cond (isPathS (w.getD j (bs []))) none (some (Jr ([],3,()) S))) (J (ls,w.map .str,()) S) (fun rec j hj => ?_) (fun rec => ?_) (by omega)).trans (scan_paths w _ _ _ _ (by omega))
 ·unfold G.smithyardref6_Suspects.b0
  dsimp only
  rw [List.length_map,lt_nat,ifB_pos hj,str_get w j hj,ref_IsPath hk]
  dsimp only
  rw [wrap_succ (by omega)]
  cases isPathS (w.getD j (bs [])) <;> rfl
 ·unfold G.smithyardref6_Suspects.b0
  dsimp only
  rw [List.length_map,lt_nat,ifB_neg (Nat.lt_irrefl _)]
theorem check_fits {l : List Rule} (h : checkRulesS l = 0) : RulesFit l := by
 have hn := small_of h
 unfold checkRulesS at h
 rw [decide_eq_false (by omega),cond_false] at h
 cases hf : firstE (nameE l) l.length with
 | some e => rw [hf] at h; exact absurd h (scanE_pos (e := nameE l) (nameE_pos l) hf)
 | none => exact rules_fit hn (rules_right hf)
theorem ref_Suspects {k : Nat} (hk : Many k) (l : List Rule) (ok : RulesOk l) (w : List ByteArray) (S : List LV) (K : LL × Int × Unit → List LV → Option R) : G.smithyardref6_Suspects.fn k (l.map Rule.lv,w.map .str,()) S K = K (namesOf l (suspS l w).1,(suspS l w).2,()) S := by
 have hk' := hk
 unfold Many at hk'
 have hrun : ∃ S',Keeps S S' [] ∧ ∀ K : LL × Int × Unit → List LV → Option (LV × List LV),G.smithyardref6_Suspects.fn0 k (l.map Rule.lv,w.map .str,()) S K = K (namesOf l (suspS l w).1,(suspS l w).2,()) S' := by
  unfold G.smithyardref6_Suspects.fn0 suspS
  dsimp only
  have hwl : ((w.map LV.str).length : Int) = (w.length : Int) := by simp
  rw [hwl,show decide ((w.length : Int) > 1000) = decide (w.length > 1000) from gt_nat w.length 1000]
  by_cases hc : checkRulesS l = 0
  ·have h1 : ∀ K : Int × Unit → List LV → Option (LV × List LV),G.smithyardref6_CheckRules.fn k (l.map Rule.lv,()) S K = K (0,()) S := fun K => by rw [ref_CheckRules hk l ok,hc]
   obtain ⟨_,hn,_,hall⟩ := check_ok hc
   have fit := check_fits hc
   rw [hc]
   show ∃ S',Keeps S S' [] ∧ ∀ K : LL × Int × Unit → List LV → Option (LV × List LV),_ = K (namesOf l (cond (decide (w.length > 1000)) ([],2) (cond (w.all isPathS) (fltB (hitsAll l w (orderedS (needsAll l) (List.replicate l.length true)).1) l.length,0) ([],3))).1,(cond (decide (w.length > 1000)) ([],2) (cond (w.all isPathS) (fltB (hitsAll l w (orderedS (needsAll l) (List.replicate l.length true)).1) l.length,0) ([],3))).2,()) S'
   by_cases hw : w.length > 1000
   ·rw [decide_eq_true hw]
    exact ⟨S,Keeps.refl _ _,fun K => (h1 _).trans rfl⟩
   ·rw [decide_eq_false hw]
    cases hp : w.all isPathS with
    | false =>
     refine ⟨S,Keeps.refl _ _,fun K => ?_⟩
     refine (h1 _).trans ?_
     dsimp only
     rw [show ((0 : Int) != 0) = false from rfl,ifB_false,ifB_false]
     refine (rs_b0' hk _ w (by omega) S _ _).trans ?_
     rw [hp]; rfl
    | true =>
     let S1 := S ++ [.obj 4 (bools (List.replicate l.length false))]
     have hK1 : Keeps S S1 [] := Keeps.app _ _ _
     have hB1 : BoolsAt S1 S.length (List.replicate l.length false) := get_end _ _
     have hlen := orderedS_len (needsAll l) (List.replicate l.length true)
     rw [needsAll_len] at hlen
     obtain ⟨S2,⟨a1,a2⟩,a3⟩ := rs_b1' (R := LV × List LV) hk l fit w (by omega) (orderedS (needsAll l) (List.replicate l.length true)).1 (susp_lt l) (by omega) S.length S1 hB1
     have he : (orderedS (needsAll l) (List.replicate l.length true)).1.foldl (refOne l w) (List.replicate l.length false) = hitsAll l w (orderedS (needsAll l) (List.replicate l.length true)).1 :=
      ref_hits l w _ _ (orderedS_ordered _ _).nodup fun i hi => ⟨rep_false _ _,by simpa using susp_lt l i hi⟩
     rw [he] at a1
     refine ⟨S2,Keeps.weak (M := [S.length]) ((hK1.weak (fun m hm => by simp at hm)).trans a2) (fun m hm => by simp at hm; omega),fun K => ?_⟩
     refine (h1 _).trans ?_
     dsimp only
     rw [show ((0 : Int) != 0) = false from rfl,ifB_false,ifB_false]
     refine (rs_b0' hk _ w (by omega) S _ _).trans ?_
     rw [hp,cond_true]
     dsimp only
     rw [ref_needs hk l ok hn]
     dsimp only
     rw [List.length_map,ref_all hk l.length hn]
     try dsimp only
     rw [ref_ordered hk (refRows l) (needsAll l) (refRows_at l) (needs_small l hn) _ (by simp [needsAll])]
     dsimp only
     rw [ifB_pos rfl,mkN_nat (by omega) _ (by omega)]
     unfold newObj
     rw [zeros_bool]
     refine (a3 _).trans ?_
     exact rs_b4' hk l hn _ (by unfold hitsAll; rw [hitOne_len]; simp) S.length S2 a1 _
  ·refine ⟨S,Keeps.refl _ _,fun K => ?_⟩
   rw [ref_CheckRules hk l ok,ne_beq hc,cond_false]
   dsimp only
   rw [ne0,ne_beq hc]; rfl
 obtain ⟨S',hK,h⟩ := hrun
 obtain ⟨G',hG⟩ := hK.grown
 unfold G.smithyardref6_Suspects.fn
 refine popK_at (rs := G.smithyardref6_Suspects.rs) (r := ((namesOf l (suspS l w).1,(suspS l w).2,()) : LL × Int × Unit)) (G := G') ?_ ?_
 ·rw [← hG]; exact h _
 ·show ([LV.own 9 1 (namesOf l (suspS l w).1),.int .i64 (suspS l w).2].all (noId 5)) = true
  have h : noId 5 (LV.own 9 1 (namesOf l (suspS l w).1)) = true := names_noId 4 _ _
  rw [List.all_cons,h]; rfl
theorem susp_small (l : List Rule) (w : List ByteArray) : (suspS l w).1.length ≤ 500 := by
 unfold suspS
 cases hc : checkRulesS l == 0 with
 | false => exact Nat.zero_le _
 | true =>
  have hn := small_of (eq_of_beq hc)
  cases decide (w.length > 1000) with
  | true => exact Nat.zero_le _
  | false =>
   cases w.all isPathS with
   | false => exact Nat.zero_le _
   | true =>
    have := fltB_len (hitsAll l w (orderedS (needsAll l) (List.replicate l.length true)).1) l.length
    show (fltB _ _).length ≤ _
    omega
theorem law11 {k : Nat} (hk : Many k) (l : List Rule) (h : LawOk l) (w : List ByteArray) (hw : w.length * 16 ≤ 140737488351232) (S : List LV) (K : Bool × Unit → List LV → Option R) : G.smithyardlaw6_StepsSuspectsMatchSpec.fn k (l.map Rule.lv,w.map .str,()) S K = K (true,()) S := by
 have e : namesOf l (suspS l w).1 = ((suspS l w).1.map (ruleName l)).map .str := by unfold namesOf; rw [List.map_map]; rfl
 have hpl := susp_small l w
 unfold G.smithyardlaw6_StepsSuspectsMatchSpec.fn
 dsimp only
 rw [ref_CopyRules hk l h.room h.cp]
 dsimp only
 rw [clone_str k _ (by simpa using hw)]
 try dsimp only
 rw [prog_Suspects hk l h.ok]
 dsimp only
 rw [ref_Suspects hk l h.ok]
 dsimp only
 rw [e,eq_strs hk _ (by simp; omega)]
 dsimp only
 rw [ifB_true,beq_self_eq_true,ifB_true,ref_SameRules hk l h.ok.n h.len]
 dsimp only
 rw [ifB_true,eq_strs hk _ (by omega)]
 dsimp only
 rw [ifB_true,awake_true hk]
end
end Go.Lm
namespace Go.Lm
section
variable {P : Program}
inductive Ty where
 | int (k : IntKind) | bool | str | sl (z bytes : Nat) (e : Ty) | nil | cons (a b : Ty)
def Ty.T : Ty → Type
 | .int _ => Int
 | .bool => Bool
 | .str => ByteArray
 | .sl _ _ e => List e.T
 | .nil => Unit
 | .cons a b => a.T × b.T
def Ty.n : Ty → Nat
 | .nil => 0
 | .cons a b => a.n + b.n
 | _ => 1
def Ty.isStruct : Ty → Bool
 | .nil => true
 | .cons _ _ => true
 | _ => false
def Ty.cells : (t : Ty) → t.T → List LV
 | .int k,n => [.int k n]
 | .bool,b => [.bool b]
 | .str,s => [.str s]
 | .sl z _ e,xs => [.sl z (xs.map fun x => match e.isStruct with
  | true => .agg (e.cells x)
  | false => (e.cells x).getD 0 .any)]
 | .nil,_ => []
 | .cons a b,x => a.cells x.1 ++ b.cells x.2
def Ty.elem (e : Ty) (x : e.T) : LV := match e.isStruct with
 | true => .agg (e.cells x)
 | false => (e.cells x).getD 0 .any
def Ty.ok : (t : Ty) → t.T → Prop
 | .int k,n => (Lit.int k n).wf = true
 | .bool,_ => True
 | .str,s => s.size ≤ 140737488351232
 | .sl _ bytes e,(xs : List e.T) => xs.length * bytes ≤ 140737488351232 ∧ xs.length ≤ 9223372036854775807 ∧ ∀ x,x ∈ xs → e.ok x
 | .nil,_ => True
 | .cons a b,x => a.ok x.1 ∧ b.ok x.2
def tyFs (P : Program) (f : TypeId → Option Ty) : Nat → List Field → Option Ty
 | _,[] => some .nil
 | off,fd :: fs => match f fd.type,Nat.beq fd.offset off with
  | some a,true => (match tyFs P f (off + a.n) fs with
   | some b => (match Nat.beq (P.cellsOf fd.type) a.n with
    | true => some (.cons a b)
    | false => none)
   | none => none)
  | _,_ => none
def tyOf (P : Program) : Nat → TypeId → Option Ty
 | 0,_ => none
 | n + 1,t => match P.underlying t with
  | some (.int k) => some (.int k)
  | some .bool => some .bool
  | some .string => some .str
  | some (.slice e) => (match tyOf P n e with
   | some a => (match Nat.beq (P.cellsOf e) a.n && Nat.blt 0 a.n with
    | true => some (.sl a.n (P.bytesOf e) a)
    | false => none)
   | none => none)
  | some (.struct fs) => (match tyFs P (tyOf P n) 0 fs.toList with
   | some a => (match Nat.beq (P.cellsOf t) a.n with
    | true => some a
    | false => none)
   | none => none)
  | _ => none
theorem Ty.cells_len : ∀ (t : Ty) (x : t.T),(t.cells x).length = t.n
 | .int _,_ => rfl
 | .bool,_ => rfl
 | .str,_ => rfl
 | .sl _ _ _,_ => rfl
 | .nil,_ => rfl
 | .cons a b,x => by simp [Ty.cells,Ty.n,Ty.cells_len a,Ty.cells_len b]
theorem Ty.n_one : ∀ (t : Ty),t.isStruct = false → t.n = 1
 | .int _,_ => rfl
 | .bool,_ => rfl
 | .str,_ => rfl
 | .sl _ _ _,_ => rfl
 | .nil,h => by cases h
 | .cons a b,h => by cases h
theorem Ty.leaf_elem (e : Ty) (x : e.T) (j : Nat) (hj : j < e.n) : leaf (e.elem x) j = (e.cells x).getD j .any := by
 unfold Ty.elem
 cases hs : e.isStruct with
 | true => rfl
 | false =>
  have h1 := e.n_one hs
  have : j = 0 := by omega
  subst this
  cases e with
  | nil => cases hs
  | cons a b => cases hs
  | _ => rfl
def Cx.start (w : World) : Cx := { ι := fun _ => 0,n := 0,I := fun b o => (w.cell? ⟨b,o,none⟩).isSome,w := w }
def RepC (c : Cx) (xs : List LV) (cs : List Value) : Prop := xs.length = cs.length ∧ ∀ i,i < cs.length → Rep c (xs.getD i .any) (cs.getD i undef) [] ∧ (cs.getD i undef).oneCell' = true
theorem mapM_get {α β : Type} {f : α → Option β} : ∀ {l : List α} {r : List β},l.mapM f = some r → r.length = l.length ∧ ∀ (i : Nat) (a : α),l[i]? = some a → ∃ b,f a = some b ∧ r[i]? = some b
 | [],r,h => by simp at h; subst h; exact ⟨rfl,fun i a h => by simp at h⟩
 | a :: l,r,h => by
  simp only [List.mapM_cons,Option.bind_eq_bind,Option.bind_eq_some_iff,Option.pure_def,Option.some.injEq] at h
  obtain ⟨b,hb,r',hr',rfl⟩ := h
  obtain ⟨h1,h2⟩ := mapM_get hr'
  refine ⟨by simp [h1],fun i x hx => ?_⟩
  cases i with
  | zero => simp at hx; subst hx; exact ⟨b,hb,by simp⟩
  | succ i => simp at hx; obtain ⟨b',h3,h4⟩ := h2 i x hx; exact ⟨b',h3,by simpa using h4⟩
theorem cells?_get {w : World} {base : Nat} {a : Addr} {n : Nat} {r : List Value} (h : w.cells? base a n = some r) : r.length = n ∧ ∀ i,i < n → w.cell? (a.add i) = some (r.getD i undef) := by
 unfold World.cells? at h
 split at h
 ·obtain ⟨h1,h2⟩ := mapM_get h
  refine ⟨by simpa using h1,fun i hi => ?_⟩
  obtain ⟨b,h3,h4⟩ := h2 i i (by simp [hi])
  rw [h3,List.getD_eq_getElem?_getD,h4]; rfl
 ·cases h
theorem cell_spot {w : World} {a : Addr} {v : Value} (h : w.cell? a = some v) : a.spot = none := by
 unfold World.cell? at h
 split at h
 ·split at h
  ·cases h
  ·rename_i hs; cases ha : a.spot with
   | none => rfl
   | some s => simp [ha] at hs
 ·cases h
theorem weights_elem {H : Type} {e : TypeId} {l : List (DataW H)} {d : DataW H} (hd : d ∈ l) : ∀ n,n ∈ d.weights P e → n ∈ DataW.weightsAll P e l := by
 intro n hn
 induction l with
 | nil => cases hd
 | cons x l ih =>
  simp only [DataW.weightsAll,List.mem_append]
  rcases List.mem_cons.1 hd with rfl | hd
  ·exact .inl hn
  ·exact .inr (ih hd)
section
variable {H : Type} {enc : TypeId × Value → H} {w : World} {base : Nat} {spare : Nat → Bool} {held : Bool}
theorem read_ok : ∀ (n : Nat) (t : TypeId) (τ : Ty) (fuel : Nat) (cs : List Value) (d : DataW H) (ps : List MemPlace),tyOf P n t = some τ → DataW.trod enc P w base spare held fuel t cs = some (d,ps) →
  (∀ m,m ∈ d.weights P t → m ≤ reachBytes) → ∃ x : τ.T,τ.ok x ∧ RepC (Cx.start w) (τ.cells x) cs
 | 0,t,τ,fuel,cs,d,ps,ht,_,_ => by cases ht
 | n + 1,t,τ,fuel,cs,d,ps,ht,h,hw => by
  have fields : ∀ (m : Nat) (fs : List Field) (off : Nat) (τ : Ty) (xs : List (DataW H × List MemPlace)),tyFs P (tyOf P n) off fs = some τ → xs.length = fs.length → (∀ (i : Nat) (f : Field),fs[i]? = some f → DataW.trod enc P w base spare held m f.type ((cs.drop f.offset).take (P.cellsOf f.type)) = xs[i]?) →
    (∀ m,m ∈ DataW.weightsEach P (fs.map (·.type)) (xs.map (·.1)) → m ≤ reachBytes) → off + τ.n ≤ cs.length → ∃ x : τ.T,τ.ok x ∧ RepC (Cx.start w) (τ.cells x) ((cs.drop off).take τ.n) := by
   intro m fs
   induction fs with
   | nil =>
    intro off τ xs hτ _ _ _ _
    simp only [tyFs,Option.some.injEq] at hτ
    subst hτ
    exact ⟨(),trivial,by simp [Ty.cells,Ty.n],fun i hi => by simp [Ty.n] at hi⟩
   | cons f fs ih =>
    intro off τ xs hτ hxl hm hwt hle
    simp only [tyFs] at hτ
    split at hτ
    ·rename_i a ha hoff
     split at hτ
     ·rename_i b hb
      split at hτ
      ·rename_i hca
       cases hτ
       have hoff := Nat.eq_of_beq_eq_true hoff
       have hca := Nat.eq_of_beq_eq_true hca
       cases xs with
       | nil => simp at hxl
       | cons y ys =>
       obtain ⟨y,yp⟩ := y
       have hy := hm 0 f (by simp)
       simp only [List.getElem?_cons_zero] at hy
       simp only [Ty.n] at hle ⊢
       obtain ⟨x1,ok1,hl1,hr1⟩ := read_ok n f.type a m _ y yp ha hy (fun m hm => hwt m (by simp only [List.map_cons,DataW.weightsEach,List.mem_append]; exact .inl hm))
       obtain ⟨x2,ok2,hl2,hr2⟩ := ih (off + a.n) b ys hb (by simpa using hxl) (fun i f hf => by have := hm (i + 1) f (by simpa using hf); simpa using this) (fun m hm => hwt m (by simp only [List.map_cons,DataW.weightsEach,List.mem_append]; exact .inr hm)) (by omega)
       rw [hoff,hca] at hl1 hr1
       have la := a.cells_len x1
       have lb := b.cells_len x2
       refine ⟨(x1,x2),⟨ok1,ok2⟩,by simp [Ty.cells,la,lb]; omega,fun i hi => ?_⟩
       have hi' : i < a.n + b.n := by simp at hi; omega
       have e0 : ((cs.drop off).take (a.n + b.n)).getD i undef = cs.getD (off + i) undef := by
        simp only [List.getD_eq_getElem?_getD,List.getElem?_take,List.getElem?_drop]; rw [if_pos hi']
       by_cases h1 : i < a.n
       ·have e1 : (a.cells x1 ++ b.cells x2).getD i .any = (a.cells x1).getD i .any := getD_app_lt _ _ _ _ (by rw [la]; exact h1)
        have e2 : ((cs.drop off).take a.n).getD i undef = cs.getD (off + i) undef := by
         simp only [List.getD_eq_getElem?_getD,List.getElem?_take,List.getElem?_drop]; rw [if_pos h1]
        have := hr1 i (by simp; omega)
        rw [e2] at this
        show Rep _ ((a.cells x1 ++ b.cells x2).getD i .any) _ [] ∧ _
        rw [e0,e1]; exact this
       ·have e1 : (a.cells x1 ++ b.cells x2).getD i .any = (b.cells x2).getD (i - a.n) .any := by
         simp only [List.getD_eq_getElem?_getD]; rw [List.getElem?_append_right (by rw [la]; omega),la]
        have e2 : ((cs.drop (off + a.n)).take b.n).getD (i - a.n) undef = cs.getD (off + i) undef := by
         simp only [List.getD_eq_getElem?_getD,List.getElem?_take,List.getElem?_drop]; rw [if_pos (by omega)]; congr 2; omega
        have := hr2 (i - a.n) (by simp; omega)
        rw [e2] at this
        show Rep _ ((a.cells x1 ++ b.cells x2).getD i .any) _ [] ∧ _
        rw [e0,e1]; exact this
      ·cases hτ
     ·cases hτ
    ·cases hτ
  have one : ∀ {v : Value} {x : LV},cs = [v] → Rep (Cx.start w) x v [] → v.oneCell' = true → RepC (Cx.start w) [x] cs := fun {v x} hc hr h1 => by
   subst hc
   exact ⟨rfl,fun i hi => by
    have : i = 0 := by simpa using hi
    subst this; simpa using ⟨hr,h1⟩⟩
  unfold tyOf at ht
  split at ht
  ·rename_i k hu
   cases ht
   obtain ⟨m,hc,hx,hwf⟩ := DataW.trod_int hu h
   exact ⟨m,hwf,one hc (.int _ _) rfl⟩
  ·rename_i hu
   cases ht
   obtain ⟨m,hc,hx⟩ := DataW.trod_bool hu h
   exact ⟨m,trivial,one hc (.bool _) rfl⟩
  ·rename_i hu
   cases ht
   obtain ⟨m,hc,hx,_⟩ := DataW.trod_string hu h
   cases hx
   refine ⟨m,?_,one hc (.str _) rfl⟩
   have := hw m.data.toList.length (by simp [DataW.weights])
   simpa [Ty.ok,reachBytes] using this
  ·rename_i e hu
   split at ht
   ·rename_i a ha
    split at ht
    ·rename_i hb
     simp only [Bool.and_eq_true] at hb
     have hce := Nat.eq_of_beq_eq_true hb.1
     have hpos : 0 < a.n := Nat.le_of_ble_eq_true hb.2
     cases ht
     rcases DataW.trod_slice hu h with ⟨hc,hx⟩ | ⟨ad,len,cap,elems,rest,m,_,hc,hx,_,hlc,hcm,hel,hget,_⟩
     ·exact ⟨([] : List a.T),⟨by simp,by simp,fun x hx => by simp at hx⟩,one hc (.sl0 _ none 0 (fun _ => rfl)) rfl⟩
     ·cases hx
      have hwt : ∀ m,m ∈ DataW.weightsAll P e (elems.map (·.1)) → m ≤ reachBytes := fun m hm => hw m (by simp only [DataW.weights,hu,List.mem_cons,List.mem_append]; exact .inr (.inl hm))
      have each : ∀ i,i < len → ∃ x : a.T,a.ok x ∧ ∃ row : List Value,row.length = a.n ∧ (∀ j,j < a.n → w.cell? ((ad.add (i * a.n)).add j) = some (row.getD j undef)) ∧ RepC (Cx.start w) (a.cells x) row := by
       intro i hi
       have hy := hget i hi
       have hi' : i < elems.length := by omega
       rw [List.getElem?_eq_getElem hi'] at hy
       simp only [Option.bind_eq_some_iff] at hy
       obtain ⟨row,hrow,hy⟩ := hy
       rw [hce] at hrow
       obtain ⟨h1,h2⟩ := cells?_get hrow
       obtain ⟨x,hok,hrep⟩ := read_ok n e a m row elems[i].1 elems[i].2 ha hy (fun m hm => hwt m (weights_elem (List.mem_map.2 ⟨_,List.getElem_mem hi',rfl⟩) m hm))
       exact ⟨x,hok,row,h1,h2,hrep⟩
      have all : ∀ k,k ≤ len → ∃ xs : List a.T,xs.length = k ∧ ∀ i (hi : i < xs.length),a.ok xs[i] ∧ ∃ row : List Value,row.length = a.n ∧ (∀ j,j < a.n → w.cell? ((ad.add (i * a.n)).add j) = some (row.getD j undef)) ∧ RepC (Cx.start w) (a.cells xs[i]) row := by
       intro k
       induction k with
       | zero => intro _; exact ⟨[],rfl,fun i hi => by simp at hi⟩
       | succ k ih =>
        intro hk
        obtain ⟨xs,hl,hxs⟩ := ih (by omega)
        obtain ⟨x,hx⟩ := each k (by omega)
        refine ⟨xs ++ [x],by simp [hl],fun i hi => ?_⟩
        by_cases h1 : i < xs.length
        ·rw [List.getElem_append_left h1]; exact hxs i h1
        ·have : i = k := by simp at hi; omega
         subst this
         rw [List.getElem_append_right (by omega)]
         simpa [hl] using hx
      obtain ⟨xs,hl,hxs⟩ := all len (Nat.le_refl _)
      have hsz := hw ((elems.length + rest.length) * P.bytesOf e) (by simp [DataW.weights,hu])
      have hmax : cap ≤ 9223372036854775807 := hcm
      refine ⟨xs,⟨?_,?_,fun x hx => ?_⟩,?_⟩
      ·show xs.length * _ ≤ _
       rw [hl,← hel]
       refine Nat.le_trans (Nat.mul_le_mul_right _ (Nat.le_add_right _ rest.length)) ?_
       simpa [reachBytes] using hsz
      ·show xs.length ≤ _
       omega
      ·obtain ⟨i,hi,rfl⟩ := List.mem_iff_getElem.1 hx
       exact (hxs i hi).1
      ·refine one hc ?_ rfl
       have hmapl : (xs.map fun x => match a.isStruct with | true => LV.agg (a.cells x) | false => (a.cells x).getD 0 .any) = xs.map a.elem := rfl
       show Rep _ (.sl a.n (xs.map fun x => match a.isStruct with | true => LV.agg (a.cells x) | false => (a.cells x).getD 0 .any)) _ _
       rw [hmapl]
       by_cases h0 : len = 0
       ·have : xs = [] := List.eq_nil_of_length_eq_zero (by omega)
        subst this
        subst h0
        exact .sl0 _ (some ad) cap (fun h => by cases h)
       ·obtain ⟨_,row0,_,hr0,_⟩ := hxs 0 (by omega)
        have hs := hr0 0 hpos
        have hadd : (ad.add (0 * a.n)).add 0 = ad := by simp [Addr.add]
        rw [hadd] at hs
        have hspot := cell_spot hs
        have had : ad = ⟨ad.block,ad.off,none⟩ := by cases ad; simp only at hspot; subst hspot; rfl
        have addr : ∀ i j,(ad.add (i * a.n)).add j = ⟨ad.block,ad.off + (i * a.n + j),none⟩ := fun i j => by
         have : (ad.add (i * a.n)).add j = ((⟨ad.block,ad.off,none⟩ : Addr).add (i * a.n)).add j := by rw [← had]
         rw [this,Addr.add_lit,Addr.add_lit,Nat.add_assoc]
        have cell : ∀ p,p < len * a.n → ∃ (x : a.T) (row : List Value),xs[p / a.n]? = some x ∧ row.length = a.n ∧ w.cell? ⟨ad.block,ad.off + p,none⟩ = some (row.getD (p % a.n) undef) ∧ RepC (Cx.start w) (a.cells x) row := fun p hp => by
         have hd : p / a.n < xs.length := by rw [hl]; exact Nat.div_lt_of_lt_mul (by rw [Nat.mul_comm]; exact hp)
         have hm := Nat.mod_lt p hpos
         obtain ⟨_,row,h1,h2,h3⟩ := hxs _ hd
         have := h2 _ hm
         rw [addr,Nat.div_add_mod' p a.n] at this
         exact ⟨xs[p / a.n],row,by simp [hd],h1,this,h3⟩
        have := Rep.sl (c := Cx.start w) a.n ad.block ad.off cap (xs.map a.elem) (fun p => (w.cell? ⟨ad.block,ad.off + p,none⟩).getD undef) (by simp [hl]; exact hlc) (by simp [hl]; omega)
         (fun p hp => by
          simp only [List.length_map,hl] at hp
          obtain ⟨x,row,_,_,h1,_⟩ := cell p hp
          show w.cell? _ = _
          rw [h1]; rfl)
         (fun p hp => by
          simp only [List.length_map,hl] at hp
          obtain ⟨x,row,_,_,h1,_⟩ := cell p hp
          show (w.cell? _).isSome = true
          rw [h1]; rfl)
         (fun p hp => by
          simp only [List.length_map,hl] at hp
          obtain ⟨x,row,_,h0,h1,h2,h3⟩ := cell p hp
          rw [h1]
          exact (h3 _ (by rw [h0]; exact Nat.mod_lt p hpos)).2)
         (fun p hp => by
          simp only [List.length_map,hl] at hp
          obtain ⟨x,row,hx,h0,h1,h2,h3⟩ := cell p hp
          have hm := Nat.mod_lt p hpos
          have e1 : (xs.map a.elem).getD (p / a.n) .any = a.elem x := by simp [List.getD_eq_getElem?_getD,hx]
          rw [e1,a.leaf_elem x _ hm,h1]
          exact (h3 _ (by rw [h0]; exact hm)).1)
        rw [List.length_map,hl,← had] at this
        exact this
    ·cases ht
   ·cases ht
  ·rename_i fs hu
   split at ht
   ·rename_i a ha
    split at ht
    ·rename_i hb
     have hcl := Nat.eq_of_beq_eq_true hb
     cases ht
     obtain ⟨xs,m,_,hx,hl,hxl,hget⟩ := DataW.trod_struct hu h
     cases hx
     obtain ⟨x,hok,hrep⟩ := fields m fs.toList 0 τ xs ha (by simpa using hxl) (fun i f hf => hget i f (by simpa using hf)) (fun m hm => hw m (by simp only [DataW.weights,hu]; exact hm)) (by omega)
     have : (cs.drop 0).take τ.n = cs := by rw [List.drop_zero,← hcl,← hl,List.take_length]
     rw [this] at hrep
     exact ⟨x,hok,hrep⟩
    ·cases ht
   ·cases ht
  ·cases ht
end
def Ty.arg (t : Ty) (x : t.T) : LV := t.elem x
theorem arg_ok {H : Type} {enc : TypeId × Value → H} {w : World} {base : Nat} {t : TypeId} {τ : Ty} {v : Value} {d : DataW H} {ps : List MemPlace} {n : Nat} (ht : tyOf P n t = some τ) (hv : Value.okWide P w .any base t v)
  (h : DataW.Trod enc P w 0 (fun _ => true) true t v d ps) (hw : ∀ m,m ∈ d.weights P t → m ≤ reachBytes) : ∃ x : τ.T,τ.ok x ∧ Rep (Cx.start w) (τ.arg x) v [] := by
 obtain ⟨fuel,hf⟩ := h
 obtain ⟨x,hok,hl,hr⟩ := read_ok n t τ fuel _ d ps ht hf hw
 refine ⟨x,hok,?_⟩
 have hlen := τ.cells_len x
 have single : τ.isStruct = false → v.cells.toList = [v] → Rep (Cx.start w) (τ.arg x) v [] := fun hs hc => by
  have h1 := τ.n_one hs
  have := (hr 0 (by rw [← hl,hlen,h1]; exact Nat.one_pos)).1
  rw [hc] at this
  have e : τ.arg x = (τ.cells x).getD 0 .any := by unfold Ty.arg Ty.elem; rw [hs]
  rw [e]
  simpa using this
 cases n with
 | zero => cases ht
 | succ n =>
  unfold tyOf at ht
  split at ht
  ·rename_i k hu
   cases ht
   obtain ⟨m,rfl⟩ := WideShapes.okWide_int hu hv
   exact single rfl rfl
  ·rename_i hu
   cases ht
   obtain ⟨m,rfl⟩ := WideShapes.okWide_bool hu hv
   exact single rfl rfl
  ·rename_i hu
   cases ht
   obtain ⟨m,rfl⟩ := WideShapes.okWide_string hu hv
   exact single rfl rfl
  ·rename_i e hu
   obtain ⟨a,len,cap,rfl⟩ := WideShapes.okWide_slice hu hv
   split at ht
   ·split at ht
    ·cases ht; exact single rfl rfl
    ·cases ht
   ·cases ht
  ·rename_i fs hu
   obtain ⟨cs,rfl,hcs⟩ := WideShapes.okWide_struct hu hv
   have hst : τ.isStruct = true := by
    split at ht
    ·rename_i a ha
     split at ht
     ·cases ht
      cases hfs : fs.toList with
      | nil => rw [hfs] at ha; simp [tyFs] at ha; subst ha; rfl
      | cons f fs' =>
       rw [hfs] at ha
       simp only [tyFs] at ha
       split at ha
       ·split at ha
        ·split at ha
         ·cases ha; rfl
         ·cases ha
        ·cases ha
       ·cases ha
     ·cases ht
    ·cases ht
   have e : τ.arg x = .agg (τ.cells x) := by unfold Ty.arg Ty.elem; rw [hst]
   rw [e]
   refine .agg _ cs (by rw [hl]; rfl) (fun i hi => ?_)
   have := (hr i (by rw [← hl]; exact hi)).1
   simpa [Value.cells,List.getD_eq_getElem?_getD,Array.getD_eq_getD_getElem?] using this
  ·cases ht
def globK : LV → Nat
 | .glob k _ => k
 | _ => 0
structure Globs (w : World) (S : List LV) : Prop where
 at' : ∀ id,id < S.length → ∃ k ob,S.getD id .any = .glob k ob ∧ w.heap[k]? = some ob
 ne : ∀ id id',id < S.length → id' < S.length → id ≠ id' → globK (S.getD id .any) ≠ globK (S.getD id' .any)
def Cx.startG (w : World) (S : List LV) : Cx := { ι := fun id => globK (S.getD id .any),n := S.length,I := fun b o => (w.cell? ⟨b,o,none⟩).isSome,w := w }
theorem start_callsG {f : FuncId} {h : Hd (LV × List LV)} (hs : HSound P f h) {args S S' : List LV} {r : LV} {v : Value} {vs : Array Value} {w : World} (hl : vs.size = args.length) (hr : ∀ i,i < args.length → Rep (Cx.start w) (args.getD i .any) (vs.getD i undef) [])
  (hg : Globs w S) (he : h args S (fun v S => some (v,S)) = some (r,S')) (hS' : S.length ≤ S'.length ∧ ∀ id,id < S.length → S'.getD id .any = S.getD id .any) (hv : rigid r = some v) : Calls P f vs w fun e w' => e = .returned v ∧ RowKit.Below w.heap.size w w' := by
 have hext : Ext (Cx.start w) (Cx.startG w S) (fun _ => False) := ⟨Nat.zero_le _,fun id hid => absurd hid (Nat.not_lt_zero _),fun _ _ h => h,fun _ _ _ => rfl,Nat.le_refl _,fun _ _ _ => rfl,fun _ _ _ _ h => h,(fun _ cur _ k _ h => ⟨cur,k,h,rfl⟩),rfl,rfl,rfl⟩
 let o : Ow := fun k => match k with
  | .sto id => (match decide (id < S.length) with | true => [globK (S.getD id .any)] | false => [])
  | _ => []
 have ho : ∀ k g,g ∈ o k → ∃ id,k = .sto id ∧ id < S.length ∧ g = globK (S.getD id .any) := fun k g hg => by
  cases k with
  | env t => cases hg
  | arg i => cases hg
  | sto id =>
   simp only [o] at hg
   split at hg
   ·rename_i hd
    exact ⟨id,rfl,of_decide_eq_true hd,by simpa using hg⟩
   ·cases hg
 have hc := hs.calls he (Cx.startG w S) vs.toList o (by simpa using hl) (fun i hi => by
   have := (hr i hi).ext hext (fun _ h => by cases h)
   simpa [List.getD_eq_getElem?_getD,Array.getD_eq_getD_getElem?] using this) ⟨rfl,fun id hid => by
    obtain ⟨k,ob,hk,hob⟩ := hg.at' id hid
    have e : (Cx.startG w S).ι id = k := by simp only [Cx.startG,hk,globK]
    have e2 : o (.sto id) = [k] := by simp only [o,decide_eq_true hid,hk,globK]
    rw [hk,e2]
    show Rep _ _ (.pointer (some ⟨(Cx.startG w S).ι id,0,none⟩)) _
    rw [e]
    exact .glob k ob hob,fun b p hb => by
   have hb : (w.cell? ⟨b,p,none⟩).isSome = true := hb
   rcases Nat.lt_or_ge b w.heap.size with h | h
   ·exact h
   ·simp [World.cell?,Array.getElem?_eq_none h] at hb⟩ ⟨fun k => by
    cases k with
    | env t => exact List.nodup_nil
    | arg i => exact List.nodup_nil
    | sto id => simp only [o]; split <;> simp,fun k k' g hne hg1 hg2 => by
    obtain ⟨id,rfl,h1,h2⟩ := ho k g hg1
    obtain ⟨id',rfl,h3,h4⟩ := ho k' g hg2
    exact hg.ne id id' h1 h3 (fun e => hne (by rw [e])) (h2.symm.trans h4)⟩ (fun k g hg1 => by
    obtain ⟨id,rfl,h1,rfl⟩ := ho k g hg1
    obtain ⟨k,ob,hk,hob⟩ := hg.at' id h1
    rw [hk]
    exact (Array.getElem?_eq_some_iff.1 hob).1)
 refine Calls.mono hc ?_
 rintro e w' ⟨c',u,o',rfl,rfl,hext,hrep,hsto,_,_,_⟩
 have hu := rigid_rep hv hrep
 subst hu
 refine ⟨rfl,⟨hext.os,hext.tape,hext.output,hext.size,fun b hb => ?_⟩⟩
 by_cases hm : ∃ k,b ∈ o k
 ·obtain ⟨k,hk⟩ := hm
  obtain ⟨id,rfl,h1,rfl⟩ := ho k b hk
  obtain ⟨k,ob,hk,hob⟩ := hg.at' id h1
  have h2 := hsto.r id (Nat.lt_of_lt_of_le h1 hS'.1)
  rw [hS'.2 id h1,hk] at h2
  rw [hk]
  show c'.w.heap[k]? = w.heap[k]?
  rw [hob]
  generalize oval (.glob k ob) (c'.ι id) = z at h2
  generalize o' (.sto id) = O at h2
  cases h2 with
  | glob _ _ hh => exact hh
 ·exact hext.block b hb hm
theorem sized_each {H : Type} {ts : List TypeId} {ds : List (DataW H)} (h : (DataW.weightsEach P ts ds).all (· ≤ reachBytes) = true) {j : Nat} {t : TypeId} {d : DataW H} (ht : ts[j]? = some t) (hd : ds[j]? = some d) : ∀ m,m ∈ d.weights P t → m ≤ reachBytes := fun m hm =>
 of_decide_eq_true (List.all_eq_true.1 h _ (DataW.weights_mem_each ht hd m hm))
end
end Go.Lm
