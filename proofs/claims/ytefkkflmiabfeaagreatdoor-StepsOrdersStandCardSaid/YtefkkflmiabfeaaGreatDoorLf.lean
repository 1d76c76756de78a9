/- Parts of the proof: LmQ35, LmW. -/
import Derived.Test.YtefkkflmiabfeaaGreatDoorLe
import Derived.Carry
import Derived.SizedLaws
set_option linter.unusedVariables false
set_option linter.unusedSimpArgs false
set_option maxRecDepth 100000
namespace Go.Lm
section
variable {R : Type}
def edgesP (l : List Rule) : List (Nat × Nat) := ((List.range l.length).map fun i => (needsS l i).map fun k => (i,k)).flatten
def edgeV (l : List Rule) (e : Nat × Nat) : LV := edgeLV l e.1 e.2
theorem edgesP_lv (l : List Rule) : edgesS l = (edgesP l).map (edgeV l) := by
 unfold edgesS accE edgesP
 rw [List.map_flatten,List.map_map]
 congr 1
 exact List.map_congr_left fun i _ => by
  show rowE l i = ((needsS l i).map fun k => (i,k)).map (edgeV l)
  rw [List.map_map]; rfl
theorem edgesP_mem (l : List Rule) (a b : Nat) : (a,b) ∈ edgesP l ↔ a < l.length ∧ b ∈ needsS l a := by
 unfold edgesP
 rw [List.mem_flatten]
 constructor
 ·rintro ⟨r,hr,h⟩
  obtain ⟨i,hi,rfl⟩ := List.mem_map.1 hr
  obtain ⟨k,hk,e⟩ := List.mem_map.1 h
  cases e
  exact ⟨List.mem_range.1 hi,hk⟩
 ·rintro ⟨h1,h2⟩
  exact ⟨_,List.mem_map.2 ⟨a,List.mem_range.2 h1,rfl⟩,List.mem_map.2 ⟨b,h2,rfl⟩⟩
theorem hasB_iff (l : List ByteArray) (s : ByteArray) : l.any (strEq s) = true ↔ s ∈ l := by
 rw [List.any_eq_true]
 constructor
 ·rintro ⟨x,hx,h⟩
  rw [(strEq_iff _ _).1 h]; exact hx
 ·intro h
  exact ⟨s,h,(strEq_iff _ _).2 rfl⟩
theorem strOf_at (l : List ByteArray) (i : Nat) (h : i < l.length) (K : ByteArray → Option R) : (idxL (l.map LV.str) (i : Int) fun v => asStr (leaf v 0) K) = K (l.getD i (bs [])) := by
 rw [idxL_nat (by simpa using h),map_str_get l i h,asLeaf_str]
theorem slTo (l : List ByteArray) (i : Nat) (h : i ≤ l.length) (K : LL → Option R) : slL (l.map LV.str) 0 (i : Int) K = K ((l.take i).map .str) := by
 unfold slL
 rw [decide_eq_true ⟨by omega,by omega,by simp; omega⟩,Int.toNat_natCast,ifB_true,List.map_take]; rfl
theorem slFrom (l : List ByteArray) (i : Nat) (h : i ≤ l.length) (K : LL → Option R) : slL (l.map LV.str) (i : Int) (l.length : Int) K = K ((l.drop i).map .str) := by
 unfold slL
 rw [decide_eq_true ⟨by omega,by omega,by simp⟩,Int.toNat_natCast,Int.toNat_natCast,ifB_true,List.take_of_length_le (by simp),List.map_drop]
def edge0 : Nat × Nat := (0,0)
theorem edge_from (l : List Rule) (E : List (Nat × Nat)) (j : Nat) (h : j < E.length) (K : ByteArray → Option R) : (idxL (E.map (edgeV l)) (j : Int) fun v => asStr (leaf v 0) K) = K (ruleName l (E.getD j edge0).1) := by
 rw [idxL_nat (by simpa using h)]
 have e : (E.map (edgeV l)).getD j .any = edgeV l (E.getD j edge0) := by simp [List.getD_eq_getElem?_getD,h]
 rw [e]; rfl
theorem edge_to (l : List Rule) (E : List (Nat × Nat)) (j : Nat) (h : j < E.length) (K : ByteArray → Option R) : (idxL (E.map (edgeV l)) (j : Int) fun v => asStr (leaf v 1) K) = K (ruleName l (E.getD j edge0).2) := by
 rw [idxL_nat (by simpa using h)]
 have e : (E.map (edgeV l)).getD j .any = edgeV l (E.getD j edge0) := by simp [List.getD_eq_getElem?_getD,h]
 rw [e]; rfl
def usedBy (l : List Rule) (X : List ByteArray) (i : Nat) (e : Nat × Nat) : Bool := strEq (ruleName l e.2) (X.getD i (bs [])) && (X.drop i).any (strEq (ruleName l e.1))
theorem st_b2 {k : Nat} (hk : Many k) (l : List Rule) (w : LL) (X : List ByteArray) (hX : X.length ≤ 500) (E : List (Nat × Nat)) (hE : E.length ≤ 250000) (i : Nat) (hi : i < X.length) (u : Bool)
  (hC : ∀ e ∈ E,ruleName l e.1 = X.getD i (bs []) → ruleName l e.2 ∈ X.take i) (S : List LV) (J : LL × LL × LL × Int × Bool × Unit → List LV → Option R) (Jr : Bool × Unit → List LV → Option R) :
  rounds (G.smithyardlaw6_StepsOrdersStand.b2 k J Jr) k (w,X.map .str,E.map (edgeV l),(i : Int),u,0,()) S = J (w,X.map .str,E.map (edgeV l),(i : Int),(u || E.any (usedBy l X i)),()) S := by
 have hk' := hk
 unfold Many at hk'
 have h0 : u = (u || (E.take 0).any (usedBy l X i)) := by simp
 refine Eq.trans (congrArg (fun z => rounds (G.smithyardlaw6_StepsOrdersStand.b2 k J Jr) k (w,X.map LV.str,E.map (edgeV l),(i : Int),z,0,()) S) h0) ?_
 refine (rounds_scan0 (fun j => (w,X.map LV.str,E.map (edgeV l),(i : Int),(u || (E.take j).any (usedBy l X i)),(j : Int),())) S E.length k (fun _ => none) (J (w,X.map .str,E.map (edgeV l),(i : Int),(u || E.any (usedBy l X i)),()) S) (fun rec j hj => ?_) (fun rec => ?_) (by omega)).trans ?_
 ·have htk : E.take (j + 1) = E.take j ++ [E.getD j edge0] := by rw [List.take_add_one,List.getElem?_eq_getElem hj,List.getD_eq_getElem?_getD,List.getElem?_eq_getElem hj]; rfl
  have hq : ∀ (v : Bool),G.smithyardlaw6_StepsOrdersStand.q0 k (fun o S => G.smithyardlaw6_StepsOrdersStand.q1 k rec o S) (w,X.map LV.str,E.map (edgeV l),(i : Int),v,(j : Int),()) S = rec (w,X.map LV.str,E.map (edgeV l),(i : Int),(v || usedBy l X i (E.getD j edge0)),((j + 1 : Nat) : Int),()) S := fun v => by
   unfold G.smithyardlaw6_StepsOrdersStand.q0 G.smithyardlaw6_StepsOrdersStand.q1
   dsimp only
   rw [wrap_succ (by omega)]
   cases v with
   | true => rfl
   | false =>
    rw [ifB_false,edge_to l E j hj,strOf_at X i hi,Bool.false_or]
    unfold usedBy
    cases strEq (ruleName l (E.getD j edge0).2) (X.getD i (bs [])) with
    | false => rfl
    | true =>
     rw [ifB_true,List.length_map,slFrom X i (by omega),edge_from l E j hj]
     refine (contains_at hk _ (by simp; omega) _ S _).trans ?_
     rfl
  rw [htk,List.any_append,List.any_cons,List.any_nil,Bool.or_false,← Bool.or_assoc]
  generalize (u || (E.take j).any (usedBy l X i)) = v
  unfold G.smithyardlaw6_StepsOrdersStand.b2
  dsimp only
  rw [List.length_map,lt_nat,ifB_pos hj,edge_from l E j hj,strOf_at X i hi,hq]
  cases he : strEq (ruleName l (E.getD j edge0).1) (X.getD i (bs [])) with
  | false => rfl
  | true =>
   have hm : E.getD j edge0 ∈ E := by rw [List.getD_eq_getElem?_getD,List.getElem?_eq_getElem hj]; exact List.getElem_mem hj
   have hin := (hasB_iff _ _).2 (hC _ hm ((strEq_iff _ _).1 he))
   rw [ifB_true,slTo X i (by omega),edge_to l E j hj]
   refine (contains_at hk _ (by simp; omega) _ S _).trans ?_
   dsimp only
   rw [hin,Bool.not_true,ifB_false,hq]
 ·unfold G.smithyardlaw6_StepsOrdersStand.b2
  dsimp only
  rw [List.length_map,lt_nat,ifB_neg (Nat.lt_irrefl _),List.take_length]
 ·exact scan_none _ _ (fun _ _ _ => rfl)
theorem st_b1 {k : Nat} (hk : Many k) (l : List Rule) (w : List ByteArray) (hw : w.length ≤ 140737488355328) (X : List ByteArray) (hX : X.length ≤ 500) (E : List (Nat × Nat)) (hE : E.length ≤ 250000)
  (hB : ∀ i,i < X.length → X.getD i (bs []) ∉ X.take i) (hC : ∀ i,i < X.length → ∀ e ∈ E,ruleName l e.1 = X.getD i (bs []) → ruleName l e.2 ∈ X.take i)
  (hD : ∀ i,i < X.length → (w.any (strEq (X.getD i (bs []))) || E.any (usedBy l X i)) = true) (S : List LV) (J : Unit → List LV → Option R) (Jr : Bool × Unit → List LV → Option R) :
  rounds (G.smithyardlaw6_StepsOrdersStand.b1 k J Jr) k (w.map .str,X.map .str,E.map (edgeV l),0,()) S = J () S := by
 have hk' := hk
 unfold Many at hk'
 refine (rounds_scan0 (fun i => (w.map LV.str,X.map LV.str,E.map (edgeV l),(i : Int),())) S X.length k (fun _ => none) (J () S) (fun rec i hi => ?_) (fun rec => ?_) (by omega)).trans (scan_none _ _ (fun _ _ _ => rfl))
 ·unfold G.smithyardlaw6_StepsOrdersStand.b1
  dsimp only
  have hno : (X.take i).any (strEq (X.getD i (bs []))) = false := by
   cases h : (X.take i).any (strEq (X.getD i (bs []))) with
   | false => rfl
   | true => exact absurd ((hasB_iff _ _).1 h) (hB i hi)
  rw [List.length_map,lt_nat,ifB_pos hi,slTo X i (by omega),strOf_at X i hi]
  refine (contains_at hk _ (by simp; omega) _ S _).trans ?_
  dsimp only
  rw [hno,ifB_false,strOf_at X i hi]
  refine (contains_at hk w hw _ S _).trans ?_
  dsimp only
  refine (st_b2 hk l _ X hX E hE i hi _ (hC i hi) S _ _).trans ?_
  dsimp only
  rw [hD i hi,Bool.not_true,ifB_false,wrap_succ (by omega)]
 ·unfold G.smithyardlaw6_StepsOrdersStand.b1
  dsimp only
  rw [List.length_map,lt_nat,ifB_neg (Nat.lt_irrefl _)]
theorem st_b0 {k : Nat} (hk : Many k) (es : LL) (w : List ByteArray) (hw : w.length ≤ 140737488355328) (X : List ByteArray) (hX : X.length ≤ 500) (hA : ∀ s ∈ w,s ∈ X) (S : List LV) (J : LL × LL × LL × Unit → List LV → Option R) (Jr : Bool × Unit → List LV → Option R) :
  rounds (G.smithyardlaw6_StepsOrdersStand.b0 k J Jr) k (w.map .str,X.map .str,es,0,()) S = J (w.map .str,X.map .str,es,()) S := by
 have hk' := hk
 unfold Many at hk'
 refine (rounds_scan0 (fun i => (w.map LV.str,X.map LV.str,es,(i : Int),())) S w.length k (fun _ => none) (J (w.map .str,X.map .str,es,()) S) (fun rec i hi => ?_) (fun rec => ?_) (by omega)).trans (scan_none _ _ (fun _ _ _ => rfl))
 ·unfold G.smithyardlaw6_StepsOrdersStand.b0
  dsimp only
  have hm : w.getD i (bs []) ∈ w := by rw [List.getD_eq_getElem?_getD,List.getElem?_eq_getElem hi]; exact List.getElem_mem hi
  rw [List.length_map,lt_nat,ifB_pos hi,strOf_at w i hi]
  refine (contains_at hk X (by omega) _ S _).trans ?_
  dsimp only
  rw [(hasB_iff _ _).2 (hA _ hm),Bool.not_true,ifB_false,wrap_succ (by omega)]
 ·unfold G.smithyardlaw6_StepsOrdersStand.b0
  dsimp only
  rw [List.length_map,lt_nat,ifB_neg (Nat.lt_irrefl _)]
theorem plan_nil {l : List Rule} {w : List ByteArray} (h : (planS l w).2 ≠ 0) : (planS l w).1 = [] := by
 unfold planS closeS at h ⊢
 cases h1 : checkRulesS l == 0 with
 | false => rfl
 | true =>
  rw [h1] at h
  cases h2 : decide (w.length > 500) with
  | true => rfl
  | false =>
   rw [h2] at h
   cases h3 : allFound l w with
   | false => rfl
   | true => rw [h3] at h; exact absurd rfl h
theorem plan_ok {l : List Rule} {w : List ByteArray} (h : (planS l w).2 = 0) : checkRulesS l = 0 ∧ allFound l w = true ∧ (planS l w).1 = (orderedS (needsAll l) (markS (needsAll l) (starts l w))).1 := by
 unfold planS closeS at h ⊢
 cases h1 : checkRulesS l == 0 with
 | false =>
  rw [h1] at h
  have : checkRulesS l = 0 := h
  rw [this] at h1; cases h1
 | true =>
  rw [h1] at h
  refine ⟨eq_of_beq h1,?_⟩
  cases h2 : decide (w.length > 500) with
  | true => rw [h2] at h; cases h
  | false =>
   rw [h2] at h
   cases h3 : allFound l w with
   | false => rw [h3] at h; cases h
   | true => exact ⟨rfl,rfl⟩
theorem needs_at (l : List Rule) (i : Nat) (h : i < l.length) : (needsAll l).getD i [] = needsS l i := by simp [needsAll,List.getD_eq_getElem?_getD,h]
theorem stands {l : List Rule} {w : List ByteArray} (h : (planS l w).2 = 0) (X : List ByteArray) (hX : X = (planS l w).1.map (ruleName l)) :
  (∀ s ∈ w,s ∈ X) ∧ (∀ i,i < X.length → X.getD i (bs []) ∉ X.take i) ∧ (∀ i,i < X.length → ∀ e ∈ edgesP l,ruleName l e.1 = X.getD i (bs []) → ruleName l e.2 ∈ X.take i) ∧
   (∀ i,i < X.length → (w.any (strEq (X.getD i (bs []))) || (edgesP l).any (usedBy l X i)) = true) := by
 obtain ⟨hc,hf,hp⟩ := plan_ok h
 obtain ⟨hr,hn,_,hall⟩ := check_ok hc
 have hO := orderedS_ordered (needsAll l) (markS (needsAll l) (starts l w))
 have hM := close_marks hn w
 have hAll := orderedS_all (close_ok hn hall w)
 rw [← hp] at hO hAll
 generalize (planS l w).1 = x at hO hAll hX
 have hxl : ∀ i ∈ x,i < l.length := fun i hi => by have := (hO.mem i hi).1; rwa [needsAll_len] at this
 have hlen : X.length = x.length := by rw [hX,List.length_map]
 have hget : ∀ i,i < x.length → X.getD i (bs []) = ruleName l (x.getD i 0) := fun i hi => by rw [hX]; simp [List.getD_eq_getElem?_getD,hi]
 have htake : ∀ i,X.take i = (x.take i).map (ruleName l) := fun i => by rw [hX,List.map_take]
 have hdrop : ∀ i,X.drop i = (x.drop i).map (ruleName l) := fun i => by rw [hX,List.map_drop]
 refine ⟨fun s hs => ?_,fun i hi hm => ?_,fun i hi e he hne => ?_,fun i hi => ?_⟩
 ·unfold allFound at hf
  have := List.all_eq_true.1 hf s hs
  obtain ⟨j,hj⟩ := Option.isSome_iff_exists.1 this
  obtain ⟨h1,h2⟩ := findS_some hj
  have hjx : j ∈ x := hAll j (by rw [needsAll_len]; exact h1) ((hM.iff j).2 (.start (List.mem_filterMap.2 ⟨s,hs,hj⟩)))
  rw [hX,← h2]
  exact List.mem_map.2 ⟨j,hjx,rfl⟩
 ·rw [hlen] at hi
  rw [htake,hget i hi] at hm
  obtain ⟨j,hj,e⟩ := List.mem_map.1 hm
  have h1 := hr.inj (hxl j (List.mem_of_mem_take hj)) (hxl _ (nat_mem x i hi)) e
  have := nodup_take hO.nodup i hi
  rw [h1] at hj
  rw [(List.contains_iff_mem).2 hj] at this; cases this
 ·rw [hlen] at hi
  obtain ⟨a,b⟩ := e
  obtain ⟨ha,hb⟩ := (edgesP_mem l a b).1 he
  rw [hget i hi] at hne
  have h1 := hr.inj ha (hxl _ (nat_mem x i hi)) hne
  have h2 := hO.behind i hi b (by rw [← h1,needs_at l a ha]; exact hb)
  rw [htake]
  exact List.mem_map.2 ⟨b,h2,rfl⟩
 ·rw [hlen] at hi
  rw [hget i hi]
  have hj := nat_mem x i hi
  have hre := (hM.iff _).1 (hO.mem _ hj).2
  rw [Bool.or_eq_true]
  generalize hz : x.getD i 0 = z at hj hre
  cases hre with
  | start hs =>
   obtain ⟨s,hs,e⟩ := List.mem_filterMap.1 hs
   refine .inl ((hasB_iff _ _).2 ?_)
   rw [(findS_some e).2]; exact hs
  | need hm hn2 =>
   rename_i m
   have hml : m < l.length := by have := reach_lt (needs_small l hn) starts_lt' hm; rwa [needsAll_len] at this
   have hmx : m ∈ x := hAll m (by rw [needsAll_len]; exact hml) ((hM.iff m).2 hm)
   obtain ⟨p,hp,ep⟩ := nat_at hmx
   have hb := hO.behind p hp z (by rw [ep]; exact hn2)
   obtain ⟨q,hq,eq⟩ := List.mem_iff_getElem.1 hb
   rw [List.length_take] at hq
   rw [List.getElem_take] at eq
   have hzi : x[i] = z := by rw [← hz,List.getD_eq_getElem?_getD,List.getElem?_eq_getElem hi]; rfl
   have hqi : q = i := (List.getElem_inj (xs := x) (h₀ := by omega) (h₁ := hi) hO.nodup).1 (eq.trans hzi.symm)
   refine .inr (List.any_eq_true.2 ⟨(m,z),(edgesP_mem l m z).2 ⟨hml,by rw [← needs_at l m hml]; exact hn2⟩,?_⟩)
   unfold usedBy
   rw [hget i hi,hz,Bool.and_eq_true]
   refine ⟨(strEq_iff _ _).2 rfl,(hasB_iff _ _).2 ?_⟩
   rw [hdrop]
   refine List.mem_map.2 ⟨m,?_,rfl⟩
   refine List.mem_iff_getElem.2 ⟨p - i,by rw [List.length_drop]; omega,?_⟩
   rw [List.getElem_drop]
   rw [List.getD_eq_getElem?_getD,List.getElem?_eq_getElem hp] at ep
   have : i + (p - i) = p := by omega
   simp only [this]
   exact ep
theorem law9 {k : Nat} (hk : Many k) (l : List Rule) (ok : RulesOk l) (w : List ByteArray) (hw : w.length ≤ 140737488355328) (S : List LV) (K : Bool × Unit → List LV → Option R) : G.smithyardlaw6_StepsOrdersStand.fn k (l.map Rule.lv,w.map .str,()) S K = K (true,()) S := by
 unfold G.smithyardlaw6_StepsOrdersStand.fn
 dsimp only
 rw [prog_Order hk l ok]
 dsimp only
 show ifB ((planS l w).2 != 0) (ifB (((namesOf l (planS l w).1).length : Int) == 0) _ _) _ = _
 rw [ne0]
 cases hc : (planS l w).2 == 0 with
 | false =>
  have hne : (planS l w).2 ≠ 0 := fun h => by rw [h] at hc; cases hc
  rw [Bool.not_false,ifB_true,plan_nil hne]
  show ifB true (G.smithyardlaw6_awake.fn k () S K) _ = _
  rw [ifB_true,awake_true hk]
 | true =>
  have h0 := eq_of_beq hc
  obtain ⟨hck,_,_⟩ := plan_ok h0
  have hn := small_of hck
  have e : namesOf l (planS l w).1 = ((planS l w).1.map (ruleName l)).map .str := by unfold namesOf; rw [List.map_map]; rfl
  have hpl := planS_small l w
  obtain ⟨hA,hB,hC,hD⟩ := stands h0 _ rfl
  have hel : (edgesP l).length ≤ 250000 := by
   have h1 := accE_len l hn l.length
   have h2 := congrArg List.length (edgesP_lv l)
   rw [List.length_map] at h2
   have h3 : (edgesS l).length = (accE l l.length).length := rfl
   omega
  rw [Bool.not_true,ifB_false,prog_Edges hk l ok]
  dsimp only
  rw [hck,show ((0 : Int) != 0) = false from rfl,ifB_false]
  have e2 : edgesR l = (edgesP l).map (edgeV l) := by
   unfold edgesR
   rw [hck]
   exact edgesP_lv l
  rw [e2]
  show rounds _ k (w.map LV.str,namesOf l (planS l w).1,_,0,()) S = _
  rw [e]
  refine (st_b0 hk _ w hw _ (by simpa using hpl) hA S _ _).trans ?_
  dsimp only
  refine (st_b1 hk l w hw _ (by simpa using hpl) _ hel hB hC hD S _ _).trans ?_
  rw [awake_true hk]
end
end Go.Lm
namespace Go.Lm
section
variable {P : Program}
inductive Ty where
 | int (k : IntKind) | bool | str | sl (z bytes : Nat) (e : Ty) | nil | cons (a b : Ty)
def Ty.T : Ty → Type
 | .int _ => Int
 | .bool => Bool
 | .str => ByteArray
 | .sl _ _ e => List e.T
 | .nil => Unit
 | .cons a b => a.T × b.T
def Ty.n : Ty → Nat
 | .nil => 0
 | .cons a b => a.n + b.n
 | _ => 1
def Ty.isStruct : Ty → Bool
 | .nil => true
 | .cons _ _ => true
 | _ => false
def Ty.cells : (t : Ty) → t.T → List LV
 | .int k,n => [.int k n]
 | .bool,b => [.bool b]
 | .str,s => [.str s]
 | .sl z _ e,xs => [.sl z (xs.map fun x => match e.isStruct with
  | true => .agg (e.cells x)
  | false => (e.cells x).getD 0 .any)]
 | .nil,_ => []
 | .cons a b,x => a.cells x.1 ++ b.cells x.2
def Ty.elem (e : Ty) (x : e.T) : LV := match e.isStruct with
 | true => .agg (e.cells x)
 | false => (e.cells x).getD 0 .any
def Ty.ok : (t : Ty) → t.T → Prop
 | .int k,n => (Lit.int k n).wf = true
 | .bool,_ => True
 | .str,s => s.size ≤ 140737488351232
 | .sl _ bytes e,(xs : List e.T) => xs.length * bytes ≤ 140737488351232 ∧ xs.length ≤ 9223372036854775807 ∧ ∀ x,x ∈ xs → e.ok x
 | .nil,_ => True
 | .cons a b,x => a.ok x.1 ∧ b.ok x.2
def tyFs (P : Program) (f : TypeId → Option Ty) : Nat → List Field → Option Ty
 | _,[] => some .nil
 | off,fd :: fs => match f fd.type,Nat.beq fd.offset off with
  | some a,true => (match tyFs P f (off + a.n) fs with
   | some b => (match Nat.beq (P.cellsOf fd.type) a.n with
    | true => some (.cons a b)
    | false => none)
   | none => none)
  | _,_ => none
def tyOf (P : Program) : Nat → TypeId → Option Ty
 | 0,_ => none
 | n + 1,t => match P.underlying t with
  | some (.int k) => some (.int k)
  | some .bool => some .bool
  | some .string => some .str
  | some (.slice e) => (match tyOf P n e with
   | some a => (match Nat.beq (P.cellsOf e) a.n && Nat.blt 0 a.n with
    | true => some (.sl a.n (P.bytesOf e) a)
    | false => none)
   | none => none)
  | some (.struct fs) => (match tyFs P (tyOf P n) 0 fs.toList with
   | some a => (match Nat.beq (P.cellsOf t) a.n with
    | true => some a
    | false => none)
   | none => none)
  | _ => none
theorem Ty.cells_len : ∀ (t : Ty) (x : t.T),(t.cells x).length = t.n
 | .int _,_ => rfl
 | .bool,_ => rfl
 | .str,_ => rfl
 | .sl _ _ _,_ => rfl
 | .nil,_ => rfl
 | .cons a b,x => by simp [Ty.cells,Ty.n,Ty.cells_len a,Ty.cells_len b]
theorem Ty.n_one : ∀ (t : Ty),t.isStruct = false → t.n = 1
 | .int _,_ => rfl
 | .bool,_ => rfl
 | .str,_ => rfl
 | .sl _ _ _,_ => rfl
 | .nil,h => by cases h
 | .cons a b,h => by cases h
theorem Ty.leaf_elem (e : Ty) (x : e.T) (j : Nat) (hj : j < e.n) : leaf (e.elem x) j = (e.cells x).getD j .any := by
 unfold Ty.elem
 cases hs : e.isStruct with
 | true => rfl
 | false =>
  have h1 := e.n_one hs
  have : j = 0 := by omega
  subst this
  cases e with
  | nil => cases hs
  | cons a b => cases hs
  | _ => rfl
def Cx.start (w : World) : Cx := { ι := fun _ => 0,n := 0,I := fun b o => (w.cell? ⟨b,o,none⟩).isSome,w := w }
def RepC (c : Cx) (xs : List LV) (cs : List Value) : Prop := xs.length = cs.length ∧ ∀ i,i < cs.length → Rep c (xs.getD i .any) (cs.getD i undef) [] ∧ (cs.getD i undef).oneCell' = true
theorem mapM_get {α β : Type} {f : α → Option β} : ∀ {l : List α} {r : List β},l.mapM f = some r → r.length = l.length ∧ ∀ (i : Nat) (a : α),l[i]? = some a → ∃ b,f a = some b ∧ r[i]? = some b
 | [],r,h => by simp at h; subst h; exact ⟨rfl,fun i a h => by simp at h⟩
 | a :: l,r,h => by
  simp only [List.mapM_cons,Option.bind_eq_bind,Option.bind_eq_some_iff,Option.pure_def,Option.some.injEq] at h
  obtain ⟨b,hb,r',hr',rfl⟩ := h
  obtain ⟨h1,h2⟩ := mapM_get hr'
  refine ⟨by simp [h1],fun i x hx => ?_⟩
  cases i with
  | zero => simp at hx; subst hx; exact ⟨b,hb,by simp⟩
  | succ i => simp at hx; obtain ⟨b',h3,h4⟩ := h2 i x hx; exact ⟨b',h3,by simpa using h4⟩
theorem cells?_get {w : World} {base : Nat} {a : Addr} {n : Nat} {r : List Value} (h : w.cells? base a n = some r) : r.length = n ∧ ∀ i,i < n → w.cell? (a.add i) = some (r.getD i undef) := by
 unfold World.cells? at h
 split at h
 ·obtain ⟨h1,h2⟩ := mapM_get h
  refine ⟨by simpa using h1,fun i hi => ?_⟩
  obtain ⟨b,h3,h4⟩ := h2 i i (by simp [hi])
  rw [h3,List.getD_eq_getElem?_getD,h4]; rfl
 ·cases h
theorem cell_spot {w : World} {a : Addr} {v : Value} (h : w.cell? a = some v) : a.spot = none := by
 unfold World.cell? at h
 split at h
 ·split at h
  ·cases h
  ·rename_i hs; cases ha : a.spot with
   | none => rfl
   | some s => simp [ha] at hs
 ·cases h
theorem weights_elem {H : Type} {e : TypeId} {l : List (DataW H)} {d : DataW H} (hd : d ∈ l) : ∀ n,n ∈ d.weights P e → n ∈ DataW.weightsAll P e l := by
 intro n hn
 induction l with
 | nil => cases hd
 | cons x l ih =>
  simp only [DataW.weightsAll,List.mem_append]
  rcases List.mem_cons.1 hd with rfl | hd
  ·exact .inl hn
  ·exact .inr (ih hd)
section
variable {H : Type} {enc : TypeId × Value → H} {w : World} {base : Nat} {spare : Nat → Bool} {held : Bool}
theorem read_ok : ∀ (n : Nat) (t : TypeId) (τ : Ty) (fuel : Nat) (cs : List Value) (d : DataW H) (ps : List MemPlace),tyOf P n t = some τ → DataW.trod enc P w base spare held fuel t cs = some (d,ps) →
  (∀ m,m ∈ d.weights P t → m ≤ reachBytes) → ∃ x : τ.T,τ.ok x ∧ RepC (Cx.start w) (τ.cells x) cs
 | 0,t,τ,fuel,cs,d,ps,ht,_,_ => by cases ht
 | n + 1,t,τ,fuel,cs,d,ps,ht,h,hw => by
  have fields : ∀ (m : Nat) (fs : List Field) (off : Nat) (τ : Ty) (xs : List (DataW H × List MemPlace)),tyFs P (tyOf P n) off fs = some τ → xs.length = fs.length → (∀ (i : Nat) (f : Field),fs[i]? = some f → DataW.trod enc P w base spare held m f.type ((cs.drop f.offset).take (P.cellsOf f.type)) = xs[i]?) →
    (∀ m,m ∈ DataW.weightsEach P (fs.map (·.type)) (xs.map (·.1)) → m ≤ reachBytes) → off + τ.n ≤ cs.length → ∃ x : τ.T,τ.ok x ∧ RepC (Cx.start w) (τ.cells x) ((cs.drop off).take τ.n) := by
   intro m fs
   induction fs with
   | nil =>
    intro off τ xs hτ _ _ _ _
    simp only [tyFs,Option.some.injEq] at hτ
    subst hτ
    exact ⟨(),trivial,by simp [Ty.cells,Ty.n],fun i hi => by simp [Ty.n] at hi⟩
   | cons f fs ih =>
    intro off τ xs hτ hxl hm hwt hle
    simp only [tyFs] at hτ
    split at hτ
    ·rename_i a ha hoff
     split at hτ
     ·rename_i b hb
      split at hτ
      ·rename_i hca
       cases hτ
       have hoff := Nat.eq_of_beq_eq_true hoff
       have hca := Nat.eq_of_beq_eq_true hca
       cases xs with
       | nil => simp at hxl
       | cons y ys =>
       obtain ⟨y,yp⟩ := y
       have hy := hm 0 f (by simp)
       simp only [List.getElem?_cons_zero] at hy
       simp only [Ty.n] at hle ⊢
       obtain ⟨x1,ok1,hl1,hr1⟩ := read_ok n f.type a m _ y yp ha hy (fun m hm => hwt m (by simp only [List.map_cons,DataW.weightsEach,List.mem_append]; exact .inl hm))
       obtain ⟨x2,ok2,hl2,hr2⟩ := ih (off + a.n) b ys hb (by simpa using hxl) (fun i f hf => by have := hm (i + 1) f (by simpa using hf); simpa using this) (fun m hm => hwt m (by simp only [List.map_cons,DataW.weightsEach,List.mem_append]; exact .inr hm)) (by omega)
       rw [hoff,hca] at hl1 hr1
       have la := a.cells_len x1
       have lb := b.cells_len x2
       refine ⟨(x1,x2),⟨ok1,ok2⟩,by simp [Ty.cells,la,lb]; omega,fun i hi => ?_⟩
       have hi' : i < a.n + b.n := by simp at hi; omega
       have e0 : ((cs.drop off).take (a.n + b.n)).getD i undef = cs.getD (off + i) undef := by
        simp only [List.getD_eq_getElem?_getD,List.getElem?_take,List.getElem?_drop]; rw [if_pos hi']
       by_cases h1 : i < a.n
       ·have e1 : (a.cells x1 ++ b.cells x2).getD i .any = (a.cells x1).getD i .any := getD_app_lt _ _ _ _ (by rw [la]; exact h1)
        have e2 : ((cs.drop off).take a.n).getD i undef = cs.getD (off + i) undef := by
         simp only [List.getD_eq_getElem?_getD,List.getElem?_take,List.getElem?_drop]; rw [if_pos h1]
        have := hr1 i (by simp; omega)
        rw [e2] at this
        show Rep _ ((a.cells x1 ++ b.cells x2).getD i .any) _ [] ∧ _
        rw [e0,e1]; exact this
       ·have e1 : (a.cells x1 ++ b.cells x2).getD i .any = (b.cells x2).getD (i - a.n) .any := by
         simp only [List.getD_eq_getElem?_getD]; rw [List.getElem?_append_right (by rw [la]; omega),la]
        have e2 : ((cs.drop (off + a.n)).take b.n).getD (i - a.n) undef = cs.getD (off + i) undef := by
         simp only [List.getD_eq_getElem?_getD,List.getElem?_take,List.getElem?_drop]; rw [if_pos (by omega)]; congr 2; omega
        have := hr2 (i - a.n) (by simp; omega)
        rw [e2] at this
        show Rep _ ((a.cells x1 ++ b.cells x2).getD i .any) _ [] ∧ _
        rw [e0,e1]; exact this
      ·cases hτ
     ·cases hτ
    ·cases hτ
  have one : ∀ {v : Value} {x : LV},cs = [v] → Rep (Cx.start w) x v [] → v.oneCell' = true → RepC (Cx.start w) [x] cs := fun {v x} hc hr h1 => by
   subst hc
   exact ⟨rfl,fun i hi => by
    have : i = 0 := by simpa using hi
    subst this; simpa using ⟨hr,h1⟩⟩
  unfold tyOf at ht
  split at ht
  ·rename_i k hu
   cases ht
   obtain ⟨m,hc,hx,hwf⟩ := DataW.trod_int hu h
   exact ⟨m,hwf,one hc (.int _ _) rfl⟩
  ·rename_i hu
   cases ht
   obtain ⟨m,hc,hx⟩ := DataW.trod_bool hu h
   exact ⟨m,trivial,one hc (.bool _) rfl⟩
  ·rename_i hu
   cases ht
   obtain ⟨m,hc,hx,_⟩ := DataW.trod_string hu h
   cases hx
   refine ⟨m,?_,one hc (.str _) rfl⟩
   have := hw m.data.toList.length (by simp [DataW.weights])
   simpa [Ty.ok,reachBytes] using this
  ·rename_i e hu
   split at ht
   ·rename_i a ha
    split at ht
    ·rename_i hb
     simp only [Bool.and_eq_true] at hb
     have hce := Nat.eq_of_beq_eq_true hb.1
     have hpos : 0 < a.n := Nat.le_of_ble_eq_true hb.2
     cases ht
     rcases DataW.trod_slice hu h with ⟨hc,hx⟩ | ⟨ad,len,cap,elems,rest,m,_,hc,hx,_,hlc,hcm,hel,hget,_⟩
     ·exact ⟨([] : List a.T),⟨by simp,by simp,fun x hx => by simp at hx⟩,one hc (.sl0 _ none 0 (fun _ => rfl)) rfl⟩
     ·cases hx
      have hwt : ∀ m,m ∈ DataW.weightsAll P e (elems.map (·.1)) → m ≤ reachBytes := fun m hm => hw m (by simp only [DataW.weights,hu,List.mem_cons,List.mem_append]; exact .inr (.inl hm))
      have each : ∀ i,i < len → ∃ x : a.T,a.ok x ∧ ∃ row : List Value,row.length = a.n ∧ (∀ j,j < a.n → w.cell? ((ad.add (i * a.n)).add j) = some (row.getD j undef)) ∧ RepC (Cx.start w) (a.cells x) row := by
       intro i hi
       have hy := hget i hi
       have hi' : i < elems.length := by omega
       rw [List.getElem?_eq_getElem hi'] at hy
       simp only [Option.bind_eq_some_iff] at hy
       obtain ⟨row,hrow,hy⟩ := hy
       rw [hce] at hrow
       obtain ⟨h1,h2⟩ := cells?_get hrow
       obtain ⟨x,hok,hrep⟩ := read_ok n e a m row elems[i].1 elems[i].2 ha hy (fun m hm => hwt m (weights_elem (List.mem_map.2 ⟨_,List.getElem_mem hi',rfl⟩) m hm))
       exact ⟨x,hok,row,h1,h2,hrep⟩
      have all : ∀ k,k ≤ len → ∃ xs : List a.T,xs.length = k ∧ ∀ i (hi : i < xs.length),a.ok xs[i] ∧ ∃ row : List Value,row.length = a.n ∧ (∀ j,j < a.n → w.cell? ((ad.add (i * a.n)).add j) = some (row.getD j undef)) ∧ RepC (Cx.start w) (a.cells xs[i]) row := by
       intro k
       induction k with
       | zero => intro _; exact ⟨[],rfl,fun i hi => by simp at hi⟩
       | succ k ih =>
        intro hk
        obtain ⟨xs,hl,hxs⟩ := ih (by omega)
        obtain ⟨x,hx⟩ := each k (by omega)
        refine ⟨xs ++ [x],by simp [hl],fun i hi => ?_⟩
        by_cases h1 : i < xs.length
        ·rw [List.getElem_append_left h1]; exact hxs i h1
        ·have : i = k := by simp at hi; omega
         subst this
         rw [List.getElem_append_right (by omega)]
         simpa [hl] using hx
      obtain ⟨xs,hl,hxs⟩ := all len (Nat.le_refl _)
      have hsz := hw ((elems.length + rest.length) * P.bytesOf e) (by simp [DataW.weights,hu])
      have hmax : cap ≤ 9223372036854775807 := hcm
      refine ⟨xs,⟨?_,?_,fun x hx => ?_⟩,?_⟩
      ·show xs.length * _ ≤ _
       rw [hl,← hel]
       refine Nat.le_trans (Nat.mul_le_mul_right _ (Nat.le_add_right _ rest.length)) ?_
       simpa [reachBytes] using hsz
      ·show xs.length ≤ _
       omega
      ·obtain ⟨i,hi,rfl⟩ := List.mem_iff_getElem.1 hx
       exact (hxs i hi).1
      ·refine one hc ?_ rfl
       have hmapl : (xs.map fun x => match a.isStruct with | true => LV.agg (a.cells x) | false => (a.cells x).getD 0 .any) = xs.map a.elem := rfl
       show Rep _ (.sl a.n (xs.map fun x => match a.isStruct with | true => LV.agg (a.cells x) | false => (a.cells x).getD 0 .any)) _ _
       rw [hmapl]
       by_cases h0 : len = 0
       ·have : xs = [] := List.eq_nil_of_length_eq_zero (by omega)
        subst this
        subst h0
        exact .sl0 _ (some ad) cap (fun h => by cases h)
       ·obtain ⟨_,row0,_,hr0,_⟩ := hxs 0 (by omega)
        have hs := hr0 0 hpos
        have hadd : (ad.add (0 * a.n)).add 0 = ad := by simp [Addr.add]
        rw [hadd] at hs
        have hspot := cell_spot hs
        have had : ad = ⟨ad.block,ad.off,none⟩ := by cases ad; simp only at hspot; subst hspot; rfl
        have addr : ∀ i j,(ad.add (i * a.n)).add j = ⟨ad.block,ad.off + (i * a.n + j),none⟩ := fun i j => by
         have : (ad.add (i * a.n)).add j = ((⟨ad.block,ad.off,none⟩ : Addr).add (i * a.n)).add j := by rw [← had]
         rw [this,Addr.add_lit,Addr.add_lit,Nat.add_assoc]
        have cell : ∀ p,p < len * a.n → ∃ (x : a.T) (row : List Value),xs[p / a.n]? = some x ∧ row.length = a.n ∧ w.cell? ⟨ad.block,ad.off + p,none⟩ = some (row.getD (p % a.n) undef) ∧ RepC (Cx.start w) (a.cells x) row := fun p hp => by
         have hd : p / a.n < xs.length := by rw [hl]; exact Nat.div_lt_of_lt_mul (by rw [Nat.mul_comm]; exact hp)
         have hm := Nat.mod_lt p hpos
         obtain ⟨_,row,h1,h2,h3⟩ := hxs _ hd
         have := h2 _ hm
         rw [addr,Nat.div_add_mod' p a.n] at this
         exact ⟨xs[p / a.n],row,by simp [hd],h1,this,h3⟩
        have := Rep.sl (c := Cx.start w) a.n ad.block ad.off cap (xs.map a.elem) (fun p => (w.cell? ⟨ad.block,ad.off + p,none⟩).getD undef) (by simp [hl]; exact hlc) (by simp [hl]; omega)
         (fun p hp => by
          simp only [List.length_map,hl] at hp
          obtain ⟨x,row,_,_,h1,_⟩ := cell p hp
          show w.cell? _ = _
          rw [h1]; rfl)
         (fun p hp => by
          simp only [List.length_map,hl] at hp
          obtain ⟨x,row,_,_,h1,_⟩ := cell p hp
          show (w.cell? _).isSome = true
          rw [h1]; rfl)
         (fun p hp => by
          simp only [List.length_map,hl] at hp
          obtain ⟨x,row,_,h0,h1,h2,h3⟩ := cell p hp
          rw [h1]
          exact (h3 _ (by rw [h0]; exact Nat.mod_lt p hpos)).2)
         (fun p hp => by
          simp only [List.length_map,hl] at hp
          obtain ⟨x,row,hx,h0,h1,h2,h3⟩ := cell p hp
          have hm := Nat.mod_lt p hpos
          have e1 : (xs.map a.elem).getD (p / a.n) .any = a.elem x := by simp [List.getD_eq_getElem?_getD,hx]
          rw [e1,a.leaf_elem x _ hm,h1]
          exact (h3 _ (by rw [h0]; exact hm)).1)
        rw [List.length_map,hl,← had] at this
        exact this
    ·cases ht
   ·cases ht
  ·rename_i fs hu
   split at ht
   ·rename_i a ha
    split at ht
    ·rename_i hb
     have hcl := Nat.eq_of_beq_eq_true hb
     cases ht
     obtain ⟨xs,m,_,hx,hl,hxl,hget⟩ := DataW.trod_struct hu h
     cases hx
     obtain ⟨x,hok,hrep⟩ := fields m fs.toList 0 τ xs ha (by simpa using hxl) (fun i f hf => hget i f (by simpa using hf)) (fun m hm => hw m (by simp only [DataW.weights,hu]; exact hm)) (by omega)
     have : (cs.drop 0).take τ.n = cs := by rw [List.drop_zero,← hcl,← hl,List.take_length]
     rw [this] at hrep
     exact ⟨x,hok,hrep⟩
    ·cases ht
   ·cases ht
  ·cases ht
end
def Ty.arg (t : Ty) (x : t.T) : LV := t.elem x
theorem arg_ok {H : Type} {enc : TypeId × Value → H} {w : World} {base : Nat} {t : TypeId} {τ : Ty} {v : Value} {d : DataW H} {ps : List MemPlace} {n : Nat} (ht : tyOf P n t = some τ) (hv : Value.okWide P w .any base t v)
  (h : DataW.Trod enc P w 0 (fun _ => true) true t v d ps) (hw : ∀ m,m ∈ d.weights P t → m ≤ reachBytes) : ∃ x : τ.T,τ.ok x ∧ Rep (Cx.start w) (τ.arg x) v [] := by
 obtain ⟨fuel,hf⟩ := h
 obtain ⟨x,hok,hl,hr⟩ := read_ok n t τ fuel _ d ps ht hf hw
 refine ⟨x,hok,?_⟩
 have hlen := τ.cells_len x
 have single : τ.isStruct = false → v.cells.toList = [v] → Rep (Cx.start w) (τ.arg x) v [] := fun hs hc => by
  have h1 := τ.n_one hs
  have := (hr 0 (by rw [← hl,hlen,h1]; exact Nat.one_pos)).1
  rw [hc] at this
  have e : τ.arg x = (τ.cells x).getD 0 .any := by unfold Ty.arg Ty.elem; rw [hs]
  rw [e]
  simpa using this
 cases n with
 | zero => cases ht
 | succ n =>
  unfold tyOf at ht
  split at ht
  ·rename_i k hu
   cases ht
   obtain ⟨m,rfl⟩ := WideShapes.okWide_int hu hv
   exact single rfl rfl
  ·rename_i hu
   cases ht
   obtain ⟨m,rfl⟩ := WideShapes.okWide_bool hu hv
   exact single rfl rfl
  ·rename_i hu
   cases ht
   obtain ⟨m,rfl⟩ := WideShapes.okWide_string hu hv
   exact single rfl rfl
  ·rename_i e hu
   obtain ⟨a,len,cap,rfl⟩ := WideShapes.okWide_slice hu hv
   split at ht
   ·split at ht
    ·cases ht; exact single rfl rfl
    ·cases ht
   ·cases ht
  ·rename_i fs hu
   obtain ⟨cs,rfl,hcs⟩ := WideShapes.okWide_struct hu hv
   have hst : τ.isStruct = true := by
    split at ht
    ·rename_i a ha
     split at ht
     ·cases ht
      cases hfs : fs.toList with
      | nil => rw [hfs] at ha; simp [tyFs] at ha; subst ha; rfl
      | cons f fs' =>
       rw [hfs] at ha
       simp only [tyFs] at ha
       split at ha
       ·split at ha
        ·split at ha
         ·cases ha; rfl
         ·cases ha
        ·cases ha
       ·cases ha
     ·cases ht
    ·cases ht
   have e : τ.arg x = .agg (τ.cells x) := by unfold Ty.arg Ty.elem; rw [hst]
   rw [e]
   refine .agg _ cs (by rw [hl]; rfl) (fun i hi => ?_)
   have := (hr i (by rw [← hl]; exact hi)).1
   simpa [Value.cells,List.getD_eq_getElem?_getD,Array.getD_eq_getD_getElem?] using this
  ·cases ht
def globK : LV → Nat
 | .glob k _ => k
 | _ => 0
structure Globs (w : World) (S : List LV) : Prop where
 at' : ∀ id,id < S.length → ∃ k ob,S.getD id .any = .glob k ob ∧ w.heap[k]? = some ob
 ne : ∀ id id',id < S.length → id' < S.length → id ≠ id' → globK (S.getD id .any) ≠ globK (S.getD id' .any)
def Cx.startG (w : World) (S : List LV) : Cx := { ι := fun id => globK (S.getD id .any),n := S.length,I := fun b o => (w.cell? ⟨b,o,none⟩).isSome,w := w }
theorem start_callsG {f : FuncId} {h : Hd (LV × List LV)} (hs : HSound P f h) {args S S' : List LV} {r : LV} {v : Value} {vs : Array Value} {w : World} (hl : vs.size = args.length) (hr : ∀ i,i < args.length → Rep (Cx.start w) (args.getD i .any) (vs.getD i undef) [])
  (hg : Globs w S) (he : h args S (fun v S => some (v,S)) = some (r,S')) (hS' : S.length ≤ S'.length ∧ ∀ id,id < S.length → S'.getD id .any = S.getD id .any) (hv : rigid r = some v) : Calls P f vs w fun e w' => e = .returned v ∧ RowKit.Below w.heap.size w w' := by
 have hext : Ext (Cx.start w) (Cx.startG w S) (fun _ => False) := ⟨Nat.zero_le _,fun id hid => absurd hid (Nat.not_lt_zero _),fun _ _ h => h,fun _ _ _ => rfl,Nat.le_refl _,fun _ _ _ => rfl,fun _ _ _ _ h => h,(fun _ cur _ k _ h => ⟨cur,k,h,rfl⟩),rfl,rfl,rfl⟩
 let o : Ow := fun k => match k with
  | .sto id => (match decide (id < S.length) with | true => [globK (S.getD id .any)] | false => [])
  | _ => []
 have ho : ∀ k g,g ∈ o k → ∃ id,k = .sto id ∧ id < S.length ∧ g = globK (S.getD id .any) := fun k g hg => by
  cases k with
  | env t => cases hg
  | arg i => cases hg
  | sto id =>
   simp only [o] at hg
   split at hg
   ·rename_i hd
    exact ⟨id,rfl,of_decide_eq_true hd,by simpa using hg⟩
   ·cases hg
 have hc := hs.calls he (Cx.startG w S) vs.toList o (by simpa using hl) (fun i hi => by
   have := (hr i hi).ext hext (fun _ h => by cases h)
   simpa [List.getD_eq_getElem?_getD,Array.getD_eq_getD_getElem?] using this) ⟨rfl,fun id hid => by
    obtain ⟨k,ob,hk,hob⟩ := hg.at' id hid
    have e : (Cx.startG w S).ι id = k := by simp only [Cx.startG,hk,globK]
    have e2 : o (.sto id) = [k] := by simp only [o,decide_eq_true hid,hk,globK]
    rw [hk,e2]
    show Rep _ _ (.pointer (some ⟨(Cx.startG w S).ι id,0,none⟩)) _
    rw [e]
    exact .glob k ob hob,fun b p hb => by
   have hb : (w.cell? ⟨b,p,none⟩).isSome = true := hb
   rcases Nat.lt_or_ge b w.heap.size with h | h
   ·exact h
   ·simp [World.cell?,Array.getElem?_eq_none h] at hb⟩ ⟨fun k => by
    cases k with
    | env t => exact List.nodup_nil
    | arg i => exact List.nodup_nil
    | sto id => simp only [o]; split <;> simp,fun k k' g hne hg1 hg2 => by
    obtain ⟨id,rfl,h1,h2⟩ := ho k g hg1
    obtain ⟨id',rfl,h3,h4⟩ := ho k' g hg2
    exact hg.ne id id' h1 h3 (fun e => hne (by rw [e])) (h2.symm.trans h4)⟩ (fun k g hg1 => by
    obtain ⟨id,rfl,h1,rfl⟩ := ho k g hg1
    obtain ⟨k,ob,hk,hob⟩ := hg.at' id h1
    rw [hk]
    exact (Array.getElem?_eq_some_iff.1 hob).1)
 refine Calls.mono hc ?_
 rintro e w' ⟨c',u,o',rfl,rfl,hext,hrep,hsto,_,_,_⟩
 have hu := rigid_rep hv hrep
 subst hu
 refine ⟨rfl,⟨hext.os,hext.tape,hext.output,hext.size,fun b hb => ?_⟩⟩
 by_cases hm : ∃ k,b ∈ o k
 ·obtain ⟨k,hk⟩ := hm
  obtain ⟨id,rfl,h1,rfl⟩ := ho k b hk
  obtain ⟨k,ob,hk,hob⟩ := hg.at' id h1
  have h2 := hsto.r id (Nat.lt_of_lt_of_le h1 hS'.1)
  rw [hS'.2 id h1,hk] at h2
  rw [hk]
  show c'.w.heap[k]? = w.heap[k]?
  rw [hob]
  generalize oval (.glob k ob) (c'.ι id) = z at h2
  generalize o' (.sto id) = O at h2
  cases h2 with
  | glob _ _ hh => exact hh
 ·exact hext.block b hb hm
theorem sized_each {H : Type} {ts : List TypeId} {ds : List (DataW H)} (h : (DataW.weightsEach P ts ds).all (· ≤ reachBytes) = true) {j : Nat} {t : TypeId} {d : DataW H} (ht : ts[j]? = some t) (hd : ds[j]? = some d) : ∀ m,m ∈ d.weights P t → m ≤ reachBytes := fun m hm =>
 of_decide_eq_true (List.all_eq_true.1 h _ (DataW.weights_mem_each ht hd m hm))
end
end Go.Lm
