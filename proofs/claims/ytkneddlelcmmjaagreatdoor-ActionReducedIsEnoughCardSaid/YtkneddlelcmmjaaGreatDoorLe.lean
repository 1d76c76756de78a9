/- Parts of the proof: LmU3, LmU4, LmL, LmL2, LmN, LmM, LmO, LmO2, LmO3, LmO4, LmU5, LmU6, LmU7, LmR5, LmJ, LmT, LmI, LmT2, LmT3, LmT4, LmJ2, LmJ3, LmJ4, LmJ5, LmJ6, LmJ7, LmJ8, LmJ9, LmJA, LmJB, LmJC, LmJD, LmJE, LmJF, LmJG, LmJH, LmJI, LmJJ. -/
import Derived.Test.YtkneddlelcmmjaaGreatDoorLd
import Derived.Lib.SplitLaws
import Derived.Lib.IndexLaws
import Derived.Lib.ItoaNum
import Derived.Lib.AtoiAll
import Derived.Lib.AtoiErr
import Derived.Laws.RangeString
import Derived.Laws.RangeAny
import Derived.Lib.ItoaLen
set_option linter.unusedVariables false
set_option linter.unusedSimpArgs false
set_option maxRecDepth 100000
namespace Go.Lm
section
variable {R:Type}
theorem less_irrefl:∀(a:List UInt8),Op.bytesLess a a=false
 |[]=>rfl
 |x::a=>by simp [Op.bytesLess,less_irrefl a]
theorem less_trans:∀(a b c:List UInt8),Op.bytesLess a b=true→Op.bytesLess b c=true→Op.bytesLess a c=true
 |_,[],_,h,_=>by cases ‹List UInt8›<;>simp [Op.bytesLess] at h
 |_,_::_,[],_,h=>by simp [Op.bytesLess] at h
 |[],_::_,_::_,_,_=>rfl
 |x::a,y::b,z::c,h1,h2=>by
  simp only [Op.bytesLess,Bool.or_eq_true,Bool.and_eq_true,decide_eq_true_eq,beq_iff_eq] at *
  rcases h1 with h1|⟨rfl,h1⟩<;>rcases h2 with h2|⟨rfl,h2⟩
  ·exact .inl (UInt8.lt_trans h1 h2)
  ·exact .inl h1
  ·exact .inl h2
  ·exact .inr ⟨rfl,less_trans a b c h1 h2⟩
theorem less_total:∀(a b:List UInt8),Op.bytesLess a b=false→a≠b→Op.bytesLess b a=true
 |[],[],_,h=>absurd rfl h
 |[],_::_,h,_=>by simp [Op.bytesLess] at h
 |_::_,[],_,_=>rfl
 |x::a,y::b,h,hne=>by
  simp only [Op.bytesLess,Bool.or_eq_false_iff,Bool.and_eq_false_iff,decide_eq_false_iff_not,beq_eq_false_iff_ne] at h
  simp only [Op.bytesLess,Bool.or_eq_true,Bool.and_eq_true,decide_eq_true_eq,beq_iff_eq]
  by_cases e:x=y
  ·subst e
   have h2:=h.2.resolve_left (fun h=>h rfl)
   exact .inr ⟨rfl,less_total a b h2 (fun e=>hne (by rw [e]))⟩
  ·left
   have h1:¬ x.toNat<y.toNat:=fun h'=>h.1 (UInt8.lt_iff_toNat_lt.2 h')
   have h2:x.toNat≠y.toNat:=fun h'=>e (UInt8.toNat_inj.1 h')
   exact UInt8.lt_iff_toNat_lt.2 (by omega)
theorem strLt_less (a b:ByteArray):strLt a b=Op.bytesLess a.data.toList b.data.toList:=by unfold strLt;rw [baList,baList]
theorem strLt_irrefl (a:ByteArray):strLt a a=false:=by rw [strLt_less,less_irrefl]
theorem strLt_trans {a b c:ByteArray} (h:strLt a b=true) (h':strLt b c=true):strLt a c=true:=by rw [strLt_less] at *;exact less_trans _ _ _ h h'
theorem ba_ext {a b:ByteArray} (h:a.data.toList=b.data.toList):a=b:=by
 have:=Array.ext' h
 cases a;cases b;simp_all
theorem strLt_total {a b:ByteArray} (h:(strLt a b||strEq a b)=false):strLt b a=true:=by
 rw [Bool.or_eq_false_iff] at h
 rw [strLt_less] at *
 refine less_total _ _ h.1 (fun e=>?_)
 have:=ba_ext e
 have h2:=(strEq_iff a b).2 this
 rw [h2] at h;cases h.2
structure File where
 p:ByteArray
 r:Bool
 b:ByteArray
 nil:Bool
 h:nil=true→b=bs []
def File.leaf (x:File):LV:=match x.nil with
 |true=>.nilsl
 |false=>.sl 1 (bytesL x.b)
def File.lv (x:File):LV:=.agg [.str x.p,.bool x.r,x.leaf]
def File.zero:File:=⟨bs [],false,bs [],true,fun _=>rfl⟩
theorem File.mat (x:File) (K:List LV→Option R):mat 3 x.lv K=K [.str x.p,.bool x.r,x.leaf]:=rfl
theorem File.sl (x:File) (K:List LV→Option R):asSl 1 x.leaf K=K (bytesL x.b):=by
 unfold File.leaf
 cases h:x.nil with
 |true=>rw [x.h h];rfl
 |false=>exact asSl_sl _ _ _
theorem bytesL_len (b:ByteArray):(bytesL b).length=b.size:=by unfold bytesL;rw [List.length_map,ba_len]
theorem file_get (l:List File) (i:Nat) (h:i<l.length):(l.map File.lv).getD i .any=(l.getD i .zero).lv:=by
 simp [List.getD_eq_getElem?_getD,h]
theorem file_mem (l:List File) (i:Nat) (h:i<l.length):l.getD i .zero∈l:=by
 rw [List.getD_eq_getElem?_getD,List.getElem?_eq_getElem h];exact List.getElem_mem h
def Rising (l:List File):Prop:=∀i j,i<j→j<l.length→strLt (l.getD i .zero).p (l.getD j .zero).p=true
theorem rising_of (l:List File) (h:∀i,0<i→i<l.length→strLt (l.getD (i-1) .zero).p (l.getD i .zero).p=true):Rising l:=by
 intro i j hij hj
 obtain ⟨d,rfl⟩:∃d,j=i+1+d:=⟨j-(i+1),by omega⟩
 clear hij
 induction d with
 |zero=>have:=h (i+1) (by omega) hj;simpa using this
 |succ d ih =>
  have h1:=ih (by omega)
  have h2:=h (i+1+(d+1)) (by omega) hj
  rw [show i+1+(d+1)-1=i+1+d by omega] at h2
  exact strLt_trans h1 h2
def memB (l:List File) (s:ByteArray):Bool:=l.any fun x=>strEq x.p s
theorem memB_iff (l:List File) (s:ByteArray):memB l s=true ↔ ∃j,j<l.length∧(l.getD j .zero).p=s:=by
 unfold memB
 rw [List.any_eq_true]
 constructor
 ·rintro ⟨x,hx,he⟩
  obtain ⟨j,hj,rfl⟩:=List.mem_iff_getElem.1 hx
  exact ⟨j,hj,by rw [List.getD_eq_getElem?_getD,List.getElem?_eq_getElem hj];exact (strEq_iff _ _).1 he⟩
 ·rintro ⟨j,hj,he⟩
  exact ⟨_,file_mem l j hj,(strEq_iff _ _).2 he⟩
theorem cut_at (n:Nat) (less:Nat→Bool) (hd:∀i j,i<j→j<n→less j=true→less i=true):∃c,c≤n∧(∀i,i<c→less i=true)∧∀i,c≤i→i<n→less i=false:=by
 induction n with
 |zero=>exact ⟨0,Nat.le_refl _,fun i hi=>absurd hi (by omega),fun i h1 h2=>absurd h2 (by omega)⟩
 |succ n ih =>
  obtain ⟨c,h1,h2,h3⟩:=ih (fun i j hij hj=>hd i j hij (by omega))
  cases hl:less n with
  |true =>
   have:c=n:=by
    rcases Nat.lt_or_ge c n with h|h
    ·have:=h3 c (Nat.le_refl _) h
     rw [hd c n h (by omega) hl] at this;cases this
    ·omega
   subst this
   refine ⟨c+1,Nat.le_refl _,fun i hi=>?_,fun i h4 h5=>absurd h5 (by omega)⟩
   by_cases e:i=c
   ·subst e;exact hl
   ·exact h2 i (by omega)
  |false =>
   refine ⟨c,by omega,h2,fun i h4 h5=>?_⟩
   by_cases e:i=n
   ·subst e;exact hl
   ·exact h3 i h4 (by omega)
theorem rounds_cut {α:Type} {b:(α→List LV→Option R)→α→List LV→Option R} (x:Nat→Nat→α) (S:List LV) (n c:Nat) (less:Nat→Bool) (fin:Nat→Option R)
  (h1:∀i,i<c→less i=true) (h2:∀i,c≤i→i<n→less i=false) (_hc:c≤n)
  (hb:∀rec lo hi,lo<hi→hi≤n→b rec (x lo hi) S=match less ((lo+hi) / 2) with|true=>rec (x ((lo+hi) / 2+1) hi) S|false=>rec (x lo ((lo+hi) / 2)) S)
  (he:∀rec lo,b rec (x lo lo) S=fin lo):∀(d lo hi fuel:Nat),lo≤c→c≤hi→hi≤n→hi-lo≤d→d<fuel→rounds b fuel (x lo hi) S=fin c
 |d,lo,hi,0,_,_,_,_,h=>by omega
 |0,lo,hi,fuel+1,a1,a2,a3,a4,_=>by
  have e1:lo=c:=by omega
  have e2:hi=c:=by omega
  subst e1;subst e2
  rw [rounds_succ,he]
 |d+1,lo,hi,fuel+1,a1,a2,a3,a4,a5=>by
  rw [rounds_succ]
  by_cases hlt:lo<hi
  ·rw [hb _ lo hi hlt a3]
   cases hl:less ((lo+hi) / 2) with
   |true =>
    have:(lo+hi) / 2<c:=by
     rcases Nat.lt_or_ge ((lo+hi) / 2) c with h|h
     ·exact h
     ·have:=h2 _ h (by omega);rw [hl] at this;cases this
    exact rounds_cut x S n c less fin h1 h2 _hc hb he d _ hi fuel (by omega) a2 a3 (by omega) (by omega)
   |false =>
    have:c≤(lo+hi) / 2:=by
     rcases Nat.lt_or_ge ((lo+hi) / 2) c with h|h
     ·have:=h1 _ h;rw [hl] at this;cases this
     ·exact h
    exact rounds_cut x S n c less fin h1 h2 _hc hb he d lo _ fuel a1 this (by omega) (by omega) (by omega)
  ·have:lo=hi:=by omega
   subst this
   have:lo=c:=by omega
   subst this
   rw [he]
theorem place {l:List File} (hl:Rising l) (s:ByteArray):∃c,c≤l.length∧(∀i,i<c→strLt (l.getD i .zero).p s=true)∧(∀i,c≤i→i<l.length→strLt (l.getD i .zero).p s=false) ∧
  (memB l s=(decide (c<l.length)&&strEq (l.getD c .zero).p s))∧∀j,j<l.length→(l.getD j .zero).p=s→j=c:=by
 obtain ⟨c,h1,h2,h3⟩:=cut_at l.length (fun i=>strLt (l.getD i .zero).p s) (fun i j hij hj h=>strLt_trans (hl i j hij hj) h)
 have huni:∀j,j<l.length→(l.getD j .zero).p=s→j=c:=fun j hj he=>by
  rcases Nat.lt_trichotomy j c with h|h|h
  ·have:=h2 j h
   simp only [he,strLt_irrefl] at this
   cases this
  ·exact h
  ·have h4:=h3 c (Nat.le_refl _) (by omega)
   have h5:=hl c j h hj
   rw [he] at h5
   simp only [h5] at h4
   cases h4
 refine ⟨c,h1,h2,h3,?_,huni⟩
 rw [Bool.eq_iff_iff,memB_iff,Bool.and_eq_true,decide_eq_true_eq,strEq_iff]
 constructor
 ·rintro ⟨j,hj,he⟩
  obtain rfl:=huni j hj he
  exact ⟨hj,he⟩
 ·rintro ⟨h4,h5⟩
  exact ⟨c,h4,h5⟩
def clashB (l:List File) (p:ByteArray):Bool:=scan (fun i=>match (bt p i==47)&&memB l (p.extract 0 i) with|true=>some true|false=>none) false p.size 0
theorem mpAt_at {S:List LV} {m:List (LV×LV)} {T:List LV} (K:List (LV×LV)→Option R):mpAt (S++.mp .str m::T) S.length .str K=K m:=by
 unfold mpAt
 have:(S++.mp .str m::T).getD S.length .any = .mp .str m:=by simp [List.getD_eq_getElem?_getD]
 rw [this]
 rfl
def hasM (l:List File):Nat→List (LV×LV)
 |0=>[]
 |i+1=>mapPut (hasM l i) (.str (l.getD i .zero).p) (.bool true)
theorem mapGet_put (m:List (LV×LV)) (a b:ByteArray) (v:LV) (hm:∀e,e∈m→∃s,e.1 = .str s):mapGet (mapPut m (.str a) v) (.str b)=match decide (a=b) with|true=>some v|false=>mapGet m (.str b):=by
 induction m with
 |nil=>simp only [mapPut,mapGet,keyEq];cases decide (a=b)<;>rfl
 |cons e m ih =>
  obtain ⟨k,y⟩:=e
  obtain ⟨s,hs⟩:=hm (k,y) (by simp)
  simp only at hs
  subst hs
  simp only [mapPut,keyEq]
  by_cases h1:s=a
  ·subst h1
   simp only [decide_true,mapGet,keyEq]
   by_cases h2:s=b
   ·subst h2;simp
   ·simp [h2]
  ·simp only [decide_eq_false h1,mapGet,keyEq]
   by_cases h2:s=b
   ·subst h2
    simp [Ne.symm h1]
   ·simp only [decide_eq_false h2]
    exact ih (fun e he=>hm e (by simp [he]))
theorem hasM_keys (l:List File):∀i e,e∈hasM l i→∃s,e.1 = .str s:=by
 intro i
 induction i with
 |zero=>intro e he;simp [hasM] at he
 |succ i ih =>
  have:∀(m:List (LV×LV)) (a:ByteArray) (v:LV),(∀e,e∈m→∃s,e.1=LV.str s)→∀e,e∈mapPut m (.str a) v→∃s,e.1 = .str s:=by
   intro m a v
   induction m with
   |nil=>intro _ e he;simp [mapPut] at he;exact ⟨a,by rw [he]⟩
   |cons x m ih2 =>
    intro hm e he
    obtain ⟨k,y⟩:=x
    simp only [mapPut] at he
    split at he
    ·rcases List.mem_cons.1 he with rfl|he
     ·exact hm (k,y) (by simp)
     ·exact hm e (by simp [he])
    ·rcases List.mem_cons.1 he with rfl|he
     ·exact hm (k,y) (by simp)
     ·exact ih2 (fun e he=>hm e (by simp [he])) e he
  exact this _ _ _ ih
theorem hasM_get (l:List File) (s:ByteArray):∀i,i≤l.length→(mapGet (hasM l i) (.str s)).getD (.bool false) = .bool (memB (l.take i) s):=by
 intro i
 induction i with
 |zero=>intro _;simp [hasM,mapGet,memB]
 |succ i ih =>
  intro hi
  simp only [hasM]
  rw [mapGet_put _ _ _ _ (hasM_keys l i)]
  have ht:l.take (i+1)=l.take i++[l.getD i .zero]:=by
   rw [List.take_add_one,List.getD_eq_getElem?_getD,List.getElem?_eq_getElem (by omega:i<l.length)];rfl
  have hm:memB (l.take (i+1)) s=(memB (l.take i) s||strEq (l.getD i .zero).p s):=by
   rw [ht];unfold memB;rw [List.any_append];simp
  rw [hm,strEq_dec]
  cases decide ((l.getD i .zero).p=s) with
  |true=>simp
  |false=>simp only [Bool.or_false];exact ih (by omega)
theorem prog_clashes {k:Nat} (hk:Many k) (l:List File) (p:ByteArray) (hp:p.size≤140737488355328) (S T:List LV) (K:Bool×Unit→List LV→Option R) :
  G.Qbu.fn k (S.length,p,()) (S++.mp .str (hasM l l.length)::T) K=K (clashB l p,()) (S++.mp .str (hasM l l.length)::T):=by
 unfold Many at hk
 unfold G.Qbu.fn clashB
 rw [←scan_map (fun b=>K (b,()) (S++.mp .str (hasM l l.length)::T))]
 refine rounds_scan0 (fun i=>(S.length,p,(p.size:Int),(i:Int),())) _ p.size k _ _ (fun rec i hi=>?_) (fun rec=>?_) (by omega)
 ·unfold G.Qbu.b0
  dsimp only
  rw [lt_nat,ifB_pos hi,idxStr_nat hi,slStr_nat (by omega),mpAt_at,hasM_get l _ _ (Nat.le_refl _),List.take_length,asBool_bool,wrap_succ (by omega)]
  generalize (bt p i==47)=b1
  generalize memB l (p.extract 0 i)=b2
  cases b1<;>cases b2<;>rfl
 ·unfold G.Qbu.b0
  dsimp only
  rw [lt_nat,ifB_neg (Nat.lt_irrefl _)]
def sumB (l:List File):Nat→Nat
 |0=>0
 |i+1=>sumB l i+(l.getD i .zero).b.size
def fileS (l:List File) (i:Nat):Option Int :=
 match !(isPathS (l.getD i .zero).p) with
 |true=>some 3
 |false=>match decide ((l.getD i .zero).b.size>100000) with
  |true=>some 2
  |false=>match decide (0<i)&&(strLt (l.getD i .zero).p (l.getD (i-1) .zero).p||strEq (l.getD i .zero).p (l.getD (i-1) .zero).p) with
   |true=>some 8
   |false=>none
def clashS (l:List File) (i:Nat):Option Int:=match clashB l (l.getD i .zero).p with
 |true=>some 12
 |false=>none
def checkFilesS (l:List File):Int:=match decide (l.length>1000) with
 |true=>2
 |false=>scan (fileS l) (scan (clashS l) (match decide (sumB l l.length>2000000) with|true=>2|false=>0) l.length 0) l.length 0
theorem fileS_rising {l:List File} (h:∀i,i<l.length→fileS l i=none):Rising l:=by
 refine rising_of l (fun i h0 hi=>strLt_total ?_)
 have:=h i hi
 unfold fileS at this
 split at this
 ·cases this
 ·split at this
  ·cases this
  ·split at this
   ·cases this
   ·rename_i h2
    rw [Bool.and_eq_false_iff] at h2
    rcases h2 with h2|h2
    ·have:=of_decide_eq_false h2;omega
    ·exact h2
theorem sumB_le (l:List File) (hb:∀x∈l,x.b.size≤140737488355328):∀i,i≤l.length→sumB l i≤i*140737488355328:=by
 intro i
 induction i with
 |zero=>intro _;simp [sumB]
 |succ i ih =>
  intro hi
  have h1:=ih (by omega)
  have h2:=hb _ (file_mem l i (by omega))
  simp only [sumB]
  rw [Nat.succ_mul];omega
structure FilesOk (l:List File):Prop where
 n:l.length≤140737488355328
 b:∀x∈l,x.b.size≤140737488355328
 p:∀x∈l,x.p.size≤140737488355328
theorem setLast (S:List LV) (a b:LV):(S++[a]).set S.length b=S++[b]:=by
 rw [List.set_append_right _ _ (Nat.le_refl _),Nat.sub_self];rfl
theorem scan_pred {β:Type} {P:β→Prop} {step:Nat→Option β} {fin:β} (hs:∀j r,step j=some r→P r) (hf:P fin):∀(d i:Nat),P (scan step fin d i)
 |0,_=>hf
 |d+1,i=>by
  simp only [scan]
  cases h:step i with
  |some r=>exact hs i r h
  |none=>exact scan_pred hs hf d (i+1)
theorem prog_CheckFiles0 {k:Nat} (hk:Many k) (l:List File) (ok:FilesOk l) (S:List LV):∃G',∀{R:Type} (K:Int×Unit→List LV→Option R),G.Qbn.fn0 k (l.map File.lv,()) S K=K (checkFilesS l,()) (S++G'):=by
 have hk':=hk
 unfold Many at hk'
 unfold checkFilesS
 cases hc:decide (l.length>1000) with
 |true =>
  refine ⟨[],fun {R} K=>?_⟩
  unfold G.Qbn.fn0
  dsimp only
  rw [List.length_map,show ((1000:Int))=((1000:Nat):Int) from rfl,gt_nat,hc,List.append_nil];rfl
 |false =>
  have hlen:l.length≤1000:=by have:=of_decide_eq_false hc;omega
  let code:Int×List LV:=scan (fun i=>(fileS l i).map fun n=>(n,S++[.mp .str (hasM l i)])) (scan (clashS l) (match decide (sumB l l.length>2000000) with|true=>2|false=>0) l.length 0,S++[.mp .str (hasM l l.length)]) l.length 0
  have hfst:code.1=scan (fileS l) (scan (clashS l) (match decide (sumB l l.length>2000000) with|true=>2|false=>0) l.length 0) l.length 0:=by
   show Prod.fst (scan _ _ _ _)=_
   rw [←scan_map Prod.fst]
   refine scan_congr _ _ (fun j _ _=>?_) rfl
   cases fileS l j<;>rfl
  have hsnd:∃G',code.2=S++G':=scan_pred (P:=fun r:Int×List LV=>∃G',r.2=S++G') (fun j r h=>by
   cases hj:fileS l j with
   |none=>rw [hj] at h;cases h
   |some n=>rw [hj] at h;cases h;exact ⟨_,rfl⟩) ⟨_,rfl⟩ _ _
  obtain ⟨G',hG⟩:=hsnd
  refine ⟨G',fun {R} K=>?_⟩
  rw [←hG]
  dsimp only
  rw [←hfst]
  unfold G.Qbn.fn0
  dsimp only
  rw [List.length_map,show ((1000:Int))=((1000:Nat):Int) from rfl,gt_nat,hc,ifB_false]
  refine Eq.trans ?_ (scan_map (fun r:Int×List LV=>K (r.1,()) r.2) l.length 0)
  unfold newObj
  refine rounds_scan (fun i=>(l.map File.lv,(sumB l i:Int),S.length,l.map File.lv,(l.length:Int),(i:Int),())) (fun i=>S++[.mp .str (hasM l i)]) l.length _ _ (fun rec i hi=>?_) (fun rec=>?_) l.length 0 k (by omega) (by omega)
  ·unfold G.Qbn.b0 G.Qbn.q0 G.Qbn.q1
   dsimp only
   have hsum:=sumB_le l ok.b i (by omega)
   have hbi:=ok.b _ (file_mem l i hi)
   have hw:IntKind.wrap .i64 ((sumB l i:Int)+((bytesL (l.getD i .zero).b).length:Int))=(sumB l (i+1):Int):=by
    rw [bytesL_len,wrap_id (by omega) (by omega)];simp only [sumB];omega
   rw [lt_nat,ifB_pos hi,idxL_nat (by simpa using hi),file_get _ _ hi,File.mat]
   simp only [List.getD_cons_zero,List.getD_cons_succ,asStr_str,asBool_bool,File.sl,hw,wrap_succ (show i<9223372036854775807 by omega)]
   rw [prog_IsPath hk]
   dsimp only
   simp only [mpAt_at,setS,setLast]
   rw [bytesL_len,show ((100000:Int))=((100000:Nat):Int) from rfl,gt_nat]
   have hprev:∀(h0:0<i) (K':LV→Option R),idxL (l.map File.lv) (IntKind.wrap .i64 ((i:Int)-1)) K'=K' (l.getD (i-1) .zero).lv:=fun h0 K'=>by
    rw [wrap_pred h0 (by omega),idxL_nat (by simp;omega),file_get _ _ (by omega)]
   have htail:∀(A J:Option R),ifB (decide ((i:Int)>0)) (idxL (l.map File.lv) (IntKind.wrap .i64 ((i:Int)-1)) fun v8=>asStr (leaf v8 0) fun s9=>ifB (strLt (l.getD i .zero).p s9||strEq (l.getD i .zero).p s9) A J) J =
     match decide (0<i)&&(strLt (l.getD i .zero).p (l.getD (i-1) .zero).p||strEq (l.getD i .zero).p (l.getD (i-1) .zero).p) with|true=>A|false=>J:=fun A J=>by
    by_cases h0:0<i
    ·rw [ifB_pos (show (i:Int)>0 by omega),hprev h0,decide_eq_true h0]
     show ifB _ _ _=_
     simp only [Bool.true_and]
     cases (strLt (l.getD i .zero).p (l.getD (i-1) .zero).p||strEq (l.getD i .zero).p (l.getD (i-1) .zero).p)<;>rfl
    ·rw [ifB_neg (show ¬ (i:Int)>0 by omega),decide_eq_false h0];rfl
   simp only [htail]
   unfold fileS
   generalize (decide (0<i)&&(strLt (l.getD i .zero).p (l.getD (i-1) .zero).p||strEq (l.getD i .zero).p (l.getD (i-1) .zero).p))=b3
   generalize isPathS (l.getD i .zero).p=b1
   generalize decide ((l.getD i .zero).b.size>100000)=b2
   cases b1<;>cases b2<;>cases b3<;>rfl
  ·unfold G.Qbn.b0
   dsimp only
   rw [lt_nat,ifB_neg (Nat.lt_irrefl _),List.length_map]
   refine Eq.trans ?_ (scan_map (fun n=>K (n,()) (S++[.mp .str (hasM l l.length)])) (step:=clashS l) l.length 0)
   refine rounds_scan0 (fun i=>((sumB l l.length:Int),S.length,l.map File.lv,(l.length:Int),(i:Int),())) _ l.length k _ _ (fun rec i hi=>?_) (fun rec=>?_) (by omega)
   ·unfold G.Qbn.b1
    dsimp only
    rw [lt_nat,ifB_pos hi,idxL_nat (by simpa using hi),file_get _ _ hi,File.mat]
    simp only [List.getD_cons_zero,List.getD_cons_succ,asStr_str,asBool_bool,File.sl]
    rw [prog_clashes hk l _ (ok.p _ (file_mem l i hi)),wrap_succ (by omega)]
    unfold clashS
    cases clashB l (l.getD i .zero).p<;>rfl
   ·unfold G.Qbn.b1
    dsimp only
    rw [lt_nat,ifB_neg (Nat.lt_irrefl _),show ((2000000:Int))=((2000000:Nat):Int) from rfl,gt_nat]
    cases decide (sumB l l.length>2000000)<;>rfl
theorem prog_CheckFiles {k:Nat} (hk:Many k) (l:List File) (ok:FilesOk l) (S:List LV) (K:Int×Unit→List LV→Option R):G.Qbn.fn k (l.map File.lv,()) S K=K (checkFilesS l,()) S:=by
 obtain ⟨G',h⟩:=prog_CheckFiles0 hk l ok S
 exact popK_at (h _) rfl
end
end Go.Lm
set_option maxRecDepth 100000
namespace Go.Lm
section
variable {R:Type}
theorem bytes_get (b:ByteArray) (i:Nat) (h:i<b.size):(bytesL b).getD i .any = .int .u8 (bt b i):=by
 have h2:i<b.data.toList.length:=by rw [ba_len];exact h
 unfold bytesL
 rw [List.getD_eq_getElem?_getD,List.getElem?_map,List.getElem?_eq_getElem h2,bt_nat h]
 rfl
def fnvAt (b:ByteArray):Nat→Int
 |0=>14695981039346656037
 |i+1=>IntKind.wrap .u64 ((bitI .xor .u64 (fnvAt b i) (IntKind.wrap .u64 (bt b i)))*(1099511628211:Int))
theorem wrap_u64_lt (n:Int):0≤IntKind.wrap .u64 n∧IntKind.wrap .u64 n<18446744073709551616:=by
 rw [show IntKind.wrap .u64 n=n.emod 18446744073709551616 from rfl]
 exact ⟨Int.emod_nonneg _ (by decide),Int.emod_lt_of_pos _ (by decide)⟩
theorem wrap_u64_id {n:Int} (h0:0≤n) (h:n<18446744073709551616):IntKind.wrap .u64 n=n:=by
 rw [show IntKind.wrap .u64 n=n.emod 18446744073709551616 from rfl]
 exact Int.emod_eq_of_lt h0 h
def fnvN (b:ByteArray):Nat:=(fnvAt b b.size).toNat
theorem fnvN_eq (b:ByteArray):fnvAt b b.size=(fnvN b:Int)∧fnvN b<18446744073709551616:=by
 have:0≤fnvAt b b.size∧fnvAt b b.size<18446744073709551616:=by
  generalize b.size=n
  cases n with
  |zero=>simp [fnvAt]
  |succ i=>exact wrap_u64_lt _
 unfold fnvN
 omega
def nib (h j:Nat):Nat:=h / 16 ^ j % 16
def hexU (n:Nat):UInt8:=([48,49,50,51,52,53,54,55,56,57,97,98,99,100,101,102]:List UInt8).getD n 0
def digestS (b:ByteArray):ByteArray:=⟨((List.range 16).map fun m=>hexU (nib (fnvN b) (15-m))).toArray⟩
abbrev HX:ByteArray:=bs [48,49,50,51,52,53,54,55,56,57,97,98,99,100,101,102]
theorem HX_bt (n:Nat) (h:n<16):bt HX n=((hexU n).toNat:Int):=by
 have:∀m:Fin 16,bt HX m.val=((hexU m.val).toNat:Int):=by decide +kernel
 exact this ⟨n,h⟩
theorem shr4 (h j:Nat):shI .shr .u64 ((h / 16 ^ j:Nat):Int) 4=((h / 16 ^ (j+1):Nat):Int):=by
 show Int.fdiv _ (2 ^ (min (4:Int).toNat 64))=_
 rw [show ((2:Int) ^ (min (4:Int).toNat 64))=((16:Nat):Int) from rfl]
 rw [Int.fdiv_eq_ediv_of_nonneg _ (by omega),Nat.pow_succ,←Nat.div_div_eq_div_mul]
 omega
theorem and15 (n:Nat) (h:n<18446744073709551616):bitI .and .u64 (n:Int) 15=((n % 16:Nat):Int):=by
 show IntKind.wrap .u64 ((BitVec.ofInt 64 (n:Int) &&& BitVec.ofInt 64 15).toNat:Int)=_
 have e:(BitVec.ofInt 64 (n:Int) &&& BitVec.ofInt 64 15).toNat=n % 16:=by
  rw [BitVec.toNat_and]
  have h1:(BitVec.ofInt 64 (n:Int)).toNat=n:=by
   rw [BitVec.toNat_ofInt];omega
  have h2:(BitVec.ofInt 64 (15:Int)).toNat=15:=by decide
  rw [h1,h2,show (15:Nat)=2 ^ 4-1 from rfl,Nat.and_two_pow_sub_one_eq_mod]
 rw [e,wrap_u64_id (by omega) (by omega)]
theorem nib_lt (h j:Nat):nib h j<16:=Nat.mod_lt _ (by decide)
def cellsD (h i:Nat):List LV:=(List.range 16).map fun m=>match decide (15-m<i) with|true=>.int .u8 ((hexU (nib h (15-m))).toNat:Int)|false=>.int .u8 0
theorem cellsD_set (h i:Nat) (hi:i<16):(cellsD h i).set (15-i) (.int .u8 ((hexU (nib h i)).toNat:Int))=cellsD h (i+1):=by
 apply List.ext_getElem?
 intro m
 unfold cellsD
 rw [List.getElem?_set]
 simp only [List.length_map,List.length_range,List.getElem?_map]
 by_cases hm:m<16
 ·rw [List.getElem?_range hm]
  simp only [Option.map_some]
  by_cases e:15-i=m
  ·subst e
   rw [if_pos rfl,if_pos (by omega),show 15-(15-i)=i by omega,decide_eq_true (by omega:i<i+1)]
  ·rw [if_neg e]
   have:decide (15-m<i)=decide (15-m<i+1):=by
    rw [Bool.eq_iff_iff];simp;omega
   rw [this]
 ·rw [List.getElem?_eq_none (by simp;omega)]
  simp only [Option.map_none]
  split
  ·rename_i e;omega
  ·rfl
theorem objAt_at {S T:List LV} {ty:Nat} {xs:List LV} (K:(List LV→LV)→List LV→Option R):objAt (S++.obj ty xs::T) S.length K=K (.obj ty) xs:=by
 unfold objAt
 have:(S++LV.obj ty xs::T).getD S.length .any = .obj ty xs:=by simp [List.getD_eq_getElem?_getD]
 rw [this]
theorem strL_hex (l:List UInt8):strL (l.map fun b=>LV.int .u8 (b.toNat:Int))=some l:=by
 induction l with
 |nil=>rfl
 |cons b l ih=>simp only [List.map_cons,strL,ih,Option.map_some,Int.toNat_natCast,UInt8.ofNat_toNat]
theorem prog_Digest0 {k:Nat} (hk:Many k) (b:ByteArray) (hb:b.size≤140737488355328) (S:List LV):∃G',∀{R:Type} (K:ByteArray×Unit→List LV→Option R),G.Qbo.fn0 k (bytesL b,()) S K=K (digestS b,()) (S++G'):=by
 have hk':=hk
 unfold Many at hk'
 refine ⟨[.any],fun {R} K=>?_⟩
 unfold G.Qbo.fn0
 dsimp only
 rw [bytesL_len]
 obtain ⟨he,hlt⟩:=fnvN_eq b
 refine (rounds_scan0 (fun i=>(fnvAt b i,bytesL b,(b.size:Int),(i:Int),())) S b.size k (fun _=>none) (K (digestS b,()) (S++[.any])) (fun rec i hi=>?_) (fun rec=>?_) (by omega)).trans (scan_none _ _ (fun _ _ _=>rfl))
 ·unfold G.Qbo.b0
  dsimp only
  rw [lt_nat,ifB_pos hi,idxL_nat (by rw [bytesL_len];exact hi),bytes_get b i hi]
  show asInt .u8 (.int .u8 _) _=_
  rw [asInt_int,wrap_succ (by omega)]
  rfl
 ·unfold G.Qbo.b0
  dsimp only
  rw [lt_nat,ifB_neg (Nat.lt_irrefl _),ifB_pos rfl]
  have hmk:∀(K':Nat→Option R),mkN 16 1 K'=K' 16:=fun K'=>rfl
  rw [hmk]
  unfold newObj
  rw [he]
  generalize hH:fnvN b=H at *
  have hz:zeros 16 [LV.int .u8 0]=cellsD H 0:=rfl
  rw [hz]
  refine (rounds_scan (fun i=>(((H / 16 ^ i:Nat):Int),(S.length,0,16),((16:Nat):Int),(i:Int),())) (fun i=>S++[.obj tyU8 (cellsD H i)]) 16 (fun _=>none) (K (digestS b,()) (S++[.any])) (fun rec i hi=>?_) (fun rec=>?_) 16 0 k (by omega) (by omega)).trans (scan_none _ _ (fun _ _ _=>rfl)) |> Eq.trans (by rw [Nat.pow_zero,Nat.div_one];rfl)
  ·unfold G.Qbo.b1
   dsimp only
   have hlt':H / 16 ^ i<18446744073709551616:=Nat.lt_of_le_of_lt (Nat.div_le_self _ _) hlt
   have hn:=nib_lt H i
   rw [lt_nat,ifB_pos hi,and15 _ hlt']
   have hs:HX.size=16:=by decide
   have h1:∀(K':Int→Option R),idxStr HX ((H / 16 ^ i % 16:Nat):Int) K'=K' ((hexU (nib H i)).toNat:Int):=fun K'=>by
    rw [idxStr_nat (by rw [hs];exact hn)]
    show K' (bt HX (nib H i))=_
    rw [HX_bt _ hn]
   rw [h1]
   have h2:∀(K':Nat→Option R),idxN 16 (IntKind.wrap .i64 (15-(i:Int))) K'=K' (15-i):=fun K'=>by
    unfold idxN
    rw [wrap_id (by omega) (by omega),ifB_pos ⟨by omega,by omega⟩,show (15-(i:Int)).toNat=15-i by omega]
   rw [h2,objAt_at]
   have h3:∀(K':List LV→Option R),stO (cellsD H i) (0+(15-i)*1) [.int .u8 ((hexU (nib H i)).toNat:Int)] K'=K' (cellsD H (i+1)):=fun K'=>by
    unfold stO
    have e:Nat.ble (0+(15-i)*1+[LV.int .u8 ((hexU (nib H i)).toNat:Int)].length) (cellsD H i).length=true:=by
     apply Nat.ble_eq_true_of_le
     simp [cellsD]
     try omega
    rw [e,ifB_true]
    congr 1
    show (cellsD H i).set (0+(15-i)*1) _=_
    rw [show 0+(15-i)*1=15-i by omega,cellsD_set H i hi]
   rw [h3]
   unfold setS
   dsimp only
   rw [setLast,ifB_neg (by decide),shr4,wrap_succ (by omega)]
  ·unfold G.Qbo.b1
   dsimp only
   rw [lt_nat,ifB_neg (Nat.lt_irrefl _),objAt_at]
   have e:(Nat.beq 0 0&&Nat.beq (16*1) (cellsD H 16).length&&Nat.blt 0 1&&Nat.ble 16 9223372036854775807)=true:=by
    have:(cellsD H 16).length=16:=by simp [cellsD]
    rw [this];rfl
   rw [e,ifB_true]
   unfold setS
   rw [setLast]
   have hc:chunks 1 16 (cellsD H 16)=((List.range 16).map fun m=>hexU (nib H (15-m))).map fun b=>LV.int .u8 (b.toNat:Int):=by
    unfold chunks cellsD
    show List.map dupL _=_
    rw [List.map_map,List.map_map]
    apply List.map_congr_left
    intro m hm
    have:m<16:=List.mem_range.1 hm
    simp only [Function.comp,decide_eq_true (show 15-m<16 by omega)]
    rfl
   unfold strOf
   rw [hc,strL_hex]
   show K _ _=K _ _
   unfold digestS
   rw [hH]
theorem prog_Digest {k:Nat} (hk:Many k) (b:ByteArray) (hb:b.size≤140737488355328) (S:List LV) (K:ByteArray×Unit→List LV→Option R):G.Qbo.fn k (bytesL b,()) S K=K (digestS b,()) S:=by
 obtain ⟨G',h⟩:=prog_Digest0 hk b hb S
 exact popK_at (h _) rfl
end
end Go.Lm
namespace Go.Lm
abbrev Bs:=List UInt8
def cutL (c:UInt8):Bs→Option (Bs×Bs)
 |[]=>none
 |b::t=>match decide (b=c) with
  |true=>some ([],t)
  |false=>(cutL c t).map fun x=>(b::x.1,x.2)
theorem cutL_some {c:UInt8}:∀{l a r:Bs},cutL c l=some (a,r)→l=a++c::r∧c∉a
 |[],a,r,h=>by cases h
 |b::t,a,r,h=>by
  simp only [cutL] at h
  by_cases e:b=c
  ·simp only [e,decide_true] at h
   cases h
   exact ⟨by simp [e],by simp⟩
  ·simp only [e,decide_false,Option.map_eq_some_iff] at h
   obtain ⟨⟨a',r'⟩,h1,h2⟩:=h
   cases h2
   obtain ⟨h3,h4⟩:=cutL_some h1
   refine ⟨by simp [h3],?_⟩
   simp only [List.mem_cons,not_or]
   exact ⟨fun x=>e x.symm,h4⟩
theorem cutL_len {c:UInt8} {l a r:Bs} (h:cutL c l=some (a,r)):l.length=a.length+r.length+1:=by
 rw [(cutL_some h).1];simp;omega
theorem cutL_index (c:UInt8):∀(l:Bs),Lib.indexByte l c=match cutL c l with|some (a,_)=>(a.length:Int)|none=>-1
 |[]=>rfl
 |b::t=>by
  simp only [cutL]
  by_cases e:b=c
  ·simp [Lib.indexByte,e]
  ·have e2:(b==c)=false:=by simpa using e
   simp only [Lib.indexByte,e2,e,decide_false,cutL_index c t]
   cases h:cutL c t with
   |none=>simp
   |some x =>
    have:((x.1.length:Int) == -1)=false:=by rw [beq_eq_false_iff_ne];omega
    simp [this]
def joinL (c:UInt8):List Bs→Bs
 |[]=>[]
 |[w]=>w
 |w::u::ws=>w++c::joinL c (u::ws)
theorem joinL_cons (c:UInt8) (w:Bs) {ws:List Bs} (h:ws≠[]):joinL c (w::ws)=w++c::joinL c ws:=by
 cases ws with
 |nil=>exact absurd rfl h
 |cons u ws=>rfl
def digB (b:UInt8):Bool:=decide (48≤b.toNat)&&decide (b.toNat≤57)
theorem digB_val {b:UInt8} (h:digB b=true):Lib.digitVal b=some (b.toNat-48):=by
 unfold digB at h
 simp only [Bool.and_eq_true,decide_eq_true_eq] at h
 unfold Lib.digitVal
 rw [if_pos h]
def valL (l:Bs):Nat:=(Lib.decFrom 0 l).getD 0
theorem decFrom_all:∀(l:Bs) (acc:Nat),l.all digB=true→∃n,Lib.decFrom acc l=some n
 |[],acc,_=>⟨acc,rfl⟩
 |a::l,acc,h=>by
  simp only [List.all_cons,Bool.and_eq_true] at h
  simp only [Lib.decFrom,digB_val h.1]
  exact decFrom_all l _ h.2
theorem decFrom_val {l:Bs} (h:l.all digB=true):Lib.decFrom 0 l=some (valL l):=by
 obtain ⟨n,hn⟩:=decFrom_all l 0 h
 unfold valL
 rw [hn];rfl
def isNumL (l:Bs) (d:Nat):Bool:=decide (1≤l.length)&&(decide (l.length≤d)&&(l.all digB&&(decide (l.head?≠some 48)||decide (l.length=1))))
theorem isNumL_iff (l:Bs) (d:Nat):isNumL l d=true ↔ (1≤l.length∧l.length≤d∧l.all digB=true∧(l.head?≠some 48∨l.length=1)):=by
 unfold isNumL
 simp only [Bool.and_eq_true,Bool.or_eq_true,decide_eq_true_eq]
theorem valL_lt {l:Bs} (h:l.all digB=true):valL l<10 ^ l.length:=by
 have:=Lib.decFrom_lt l 0 _ (decFrom_val h)
 simpa using this
end Go.Lm
set_option maxRecDepth 100000
namespace Go.Lm
def toL (s:ByteArray):Bs:=s.data.toList
def ofL (l:Bs):ByteArray:=⟨l.toArray⟩
@[simp] theorem toL_ofL (l:Bs):toL (ofL l)=l:=rfl
@[simp] theorem ofL_toL (s:ByteArray):ofL (toL s)=s:=by cases s;rfl
theorem toL_len (s:ByteArray):(toL s).length=s.size:=by unfold toL;rw [Array.length_toList];rfl
theorem toL_app (a b:ByteArray):toL (a++b)=toL a++toL b:=by unfold toL;simp
theorem toL_inj {a b:ByteArray} (h:toL a=toL b):a=b:=by rw [←ofL_toL a,←ofL_toL b,h]
theorem ofL_size (l:Bs):(ofL l).size=l.length:=by rw [←toL_len,toL_ofL]
def isNumS (s:ByteArray) (d:Nat):Bool:=isNumL (toL s) d
def numV (s:ByteArray):Int:=(valL (toL s):Int)
theorem bs_toL (l:List Nat):toL (bs l)=l.map UInt8.ofNat:=rfl
end Go.Lm
set_option maxRecDepth 100000
namespace Go.Lm
section
variable {R:Type}
theorem index_at {k:Nat} (hk:Many k) (l:List ByteArray) (hl:l.length≤140737488355328) (w:ByteArray) (S:List LV) (K:Int×Unit→List LV→Option R) :
  G.Qdb.fn k (l.map LV.str,w,()) S K=K (scan (fun i=>match strEq w (l.getD i (bs [])) with|true=>some (i:Int)|false=>none) (-1) l.length 0,()) S:=by
 unfold Many at hk
 unfold G.Qdb.fn
 dsimp only
 rw [←scan_map (fun n:Int=>K (n,()) S),List.length_map]
 refine rounds_scan0 (fun i=>(l.map LV.str,w,(l.length:Int),(i:Int),())) S l.length k _ _ (fun rec i hi=>?_) (fun rec=>?_) (by omega)
 ·unfold G.Qdb.b0
  dsimp only
  rw [lt_nat,ifB_pos hi,idxL_nat (by simpa using hi),map_str_get l i hi]
  show ifB (strEq w (l.getD i (bs []))) _ _=_
  rw [wrap_succ (by omega)]
  cases strEq w (l.getD i (bs []))<;>rfl
 ·unfold G.Qdb.b0
  dsimp only
  rw [lt_nat,ifB_neg (Nat.lt_irrefl _)]
theorem scan_any (p:Nat→Bool):∀(d i:Nat),decide (scan (fun j=>match p j with|true=>some (j:Int)|false=>none) (-1) d i≥0)=(List.range' i d).any p
 |0,i=>rfl
 |d+1,i=>by
  have ih:=scan_any p d (i+1)
  rw [List.range'_succ,List.any_cons,←ih]
  by_cases h:p i=true
  ·simp [scan,h]
  ·have h:p i=false:=by simpa using h
   simp [scan,h]
theorem any_range {α:Type} (z:α) (p:α→Bool):∀(l:List α) (m:List α),(List.range' m.length l.length).any (fun j=>p ((m++l).getD j z))=l.any p
 |[],m=>rfl
 |x::l,m=>by
  simp only [List.length_cons,List.range'_succ,List.any_cons]
  have e:(m++x::l).getD m.length z=x:=by simp [List.getD_eq_getElem?_getD]
  rw [e]
  have:=any_range z p l (m++[x])
  simp only [List.length_append,List.length_cons,List.length_nil,Nat.zero_add,List.append_assoc,List.cons_append,List.nil_append] at this
  rw [this]
theorem contains_at {k:Nat} (hk:Many k) (l:List ByteArray) (hl:l.length≤140737488355328) (w:ByteArray) (S:List LV) (K:Bool×Unit→List LV→Option R) :
  G.Qcw.fn k (l.map LV.str,w,()) S K=K (l.any (strEq w),()) S:=by
 unfold G.Qcw.fn
 try dsimp only
 rw [index_at hk l hl]
 dsimp only
 rw [scan_any (fun j=>strEq w (l.getD j (bs []))),←List.range_eq_range']
 have:=any_range (bs []) (strEq w) l []
 simp only [List.length_nil,List.nil_append] at this
 rw [List.range_eq_range',this]
theorem dig_key (b:UInt8):(bs [48,49,50,51,52,53,54,55,56,57]).data.toList.contains b=digB b:=by
 have key:∀n:Fin 256,(bs [48,49,50,51,52,53,54,55,56,57]).data.toList.contains (n.val.toUInt8)=digB (n.val.toUInt8):=by decide +kernel
 have:=key ⟨b.toNat,b.toNat_lt⟩
 simpa only [Nat.toUInt8,UInt8.ofNat_toNat] using this
theorem trim_dig (k:Nat) (s:ByteArray) (hs:s.size≤140737488355328):∃t,strEq t (bs [])=(toL s).all digB∧∀(S:List LV) (K:ByteArray×Unit→List LV→Option R),H.Trim.fn k (s,bs [48,49,50,51,52,53,54,55,56,57],()) S K=K (t,()) S:=by
 have:(decide (s.size≤9223372036854775807)&&decide ((bs [48,49,50,51,52,53,54,55,56,57]).size<4294967281)&&(bs [48,49,50,51,52,53,54,55,56,57]).data.toList.all (fun b=>decide (b.toNat<128)))=true:=by
  rw [decide_eq_true (by omega)];decide +kernel
 refine ⟨_,?_,fun S K=>by unfold H.Trim.fn handF trimF;dsimp only;rw [this]⟩
 rw [Bool.eq_iff_iff,strEq_iff]
 have e:Lib.trimS s.data.toList (bs [48,49,50,51,52,53,54,55,56,57]).data.toList=[] ↔ (toL s).all digB=true:=by
  rw [trim_nil]
  simp only [dig_key]
  rfl
 rw [←e]
 constructor
 ·intro h
  have:=congrArg toL h
  simpa [toL,bs] using this
 ·intro h;rw [h];rfl
theorem bt_zero {s:ByteArray} {b:UInt8} {t:Bs} (h:toL s=b::t):bt s 0=(b.toNat:Int):=by
 have hl:0<s.size:=by rw [←toL_len,h];simp
 have:=bt_nat hl
 rw [show ((0:Nat):Int)=0 from rfl] at this
 rw [this]
 have h5:(toL s)[0]? = some (s[0]'hl):=by
  unfold toL
  rw [Array.getElem?_toList]
  exact Array.getElem?_eq_getElem hl
 rw [h] at h5
 have e:b=s[0]'hl:=by simpa using h5
 rw [e]
theorem isNum_cons {b:UInt8} {t:Bs} {d:Nat} (hd:t.length+1≤d) (ha:(b::t).all digB=true):isNumL (b::t) d=(decide (b≠48)||decide (t=[])):=by
 unfold isNumL
 rw [decide_eq_true (show 1≤(b::t).length by simp),decide_eq_true (show (b::t).length≤d by simpa using hd),ha]
 simp only [Bool.true_and,List.head?_cons,ne_eq,Option.some.injEq,List.length_cons]
 congr 1
 cases t<;>simp
theorem isNumber_at (k:Nat) (s:ByteArray) (d:Nat) (hs:s.size≤140737488355328) (S:List LV) (K:Bool×Unit→List LV→Option R):G.Qat.fn k (s,(d:Int),()) S K=K (isNumS s d,()) S:=by
 unfold G.Qat.fn isNumS
 dsimp only
 have el:=toL_len s
 by_cases h1:1≤s.size
 ·rw [ifB_pos (show (s.size:Int)≥1 by omega)]
  by_cases h2:s.size≤d
  ·obtain ⟨t,ht,htr⟩:=trim_dig (R:=R) k s hs
   rw [ifB_pos (show (s.size:Int)≤(d:Int) by omega),htr]
   dsimp only
   rw [ht]
   cases ha:(toL s).all digB with
   |false =>
    have:isNumL (toL s) d=false:=by unfold isNumL;rw [ha];simp
    rw [this];rfl
   |true =>
    rw [ifB_true]
    cases hb:toL s with
    |nil=>rw [hb] at el;simp at el;omega
    |cons b t =>
     have e0:idxStr s 0=fun (K:Int→Option R)=>K (bt s 0):=by
      funext K
      exact idxStr_nat (i:=0) (by omega) K
     rw [e0]
     dsimp only
     rw [bt_zero hb,isNum_cons (by rw [hb] at el;simp at el;omega) (by rw [←hb];exact ha)]
     have e1:((b.toNat:Int) != 48)=decide (b≠48):=by
      by_cases hq:b=48
      ·subst hq;rfl
      ·have h9:b.toNat≠48:=fun e=>hq (UInt8.toNat_inj.1 e)
       have h8:((b.toNat:Int)==48)=false:=by rw [beq_eq_false_iff_ne];omega
       rw [decide_eq_true hq]
       show (!((b.toNat:Int)==48))=true
       rw [h8];rfl
     rw [e1]
     by_cases h48:b=48
     ·subst h48
      simp only [ne_eq,not_true_eq_false,decide_false,Bool.false_or,ifB_false]
      congr 2
      rw [Bool.eq_iff_iff,strEq_iff,decide_eq_true_eq]
      constructor
      ·intro h
       have:=congrArg toL h
       rw [hb] at this
       have h3:=congrArg List.tail this
       simpa [bs,toL] using h3
      ·intro h
       subst h
       exact toL_inj hb
     ·simp [h48]
  ·rw [ifB_neg (show ¬ (s.size:Int)≤(d:Int) by omega)]
   have:isNumL (toL s) d=false:=by unfold isNumL;rw [decide_eq_false (show ¬ (toL s).length≤d by omega)];simp
   rw [this]
 ·rw [ifB_neg (show ¬ (s.size:Int)≥1 by omega)]
  have:isNumL (toL s) d=false:=by unfold isNumL;rw [decide_eq_false (show ¬ 1≤(toL s).length by omega)];simp
  rw [this]
theorem atoiAll_num {l:Bs} (h0:1≤l.length) (h18:l.length≤18) (h:l.all digB=true):Lib.atoiAll l = .ok (valL l:Int):=by
 have key:∀(l:Bs) (acc u:Nat),l.all digB=true→Lib.decFrom acc l=some u→u<1000000000000000000→Lib.parseUint10 acc l = .ok u:=by
  intro l
  induction l with
  |nil=>intro acc u _ h _;cases h;rfl
  |cons b t ih =>
   intro acc u ha h hu
   simp only [List.all_cons,Bool.and_eq_true] at ha
   have hb:=ha.1
   have hv:=digB_val hb
   unfold digB at hb
   simp only [Bool.and_eq_true,decide_eq_true_eq] at hb
   simp only [Lib.decFrom,hv] at h
   have hmono:∀(l:Bs) (a u:Nat),Lib.decFrom a l=some u→a≤u:=by
    intro l
    induction l with
    |nil=>intro a u h;cases h;exact Nat.le_refl _
    |cons c t ih =>
     intro a u h
     simp only [Lib.decFrom] at h
     cases hd:Lib.digitVal c with
     |none=>rw [hd] at h;cases h
     |some d=>rw [hd] at h;have:=ih _ _ h;omega
   have h1:=hmono t _ _ h
   have:=ih _ u ha.2 h hu
   unfold Lib.parseUint10
   rw [if_pos hb,if_neg (by omega),if_neg (by omega)]
   exact this
 have hv:=decFrom_val h
 have hlt:=valL_lt h
 have hp:10 ^ l.length≤10 ^ 18:=Nat.pow_le_pow_right (by decide) h18
 have hu:valL l<1000000000000000000:=Nat.lt_of_lt_of_le hlt hp
 have hpu:=key l 0 _ h hv hu
 cases l with
 |nil=>simp at h0
 |cons b t =>
  have hb:digB b=true:=by simp only [List.all_cons,Bool.and_eq_true] at h;exact h.1
  unfold digB at hb
  simp only [Bool.and_eq_true,decide_eq_true_eq] at hb
  have hm:Lib.parseMag (b::t) = .ok (valL (b::t)):=by
   unfold Lib.parseMag
   simpa using hpu
  unfold Lib.atoiAll
  have e1:¬ (b.toNat=43∨b.toNat=45):=by omega
  have e2:¬ (b.toNat=45):=by omega
  have hu2:¬ (9223372036854775808≤valL (b::t)):=by omega
  dsimp only
  rw [if_neg e1,hm]
  simp only [e2,hu2,if_false,and_false,false_and]
theorem Atoi_at (k:Nat) {s:ByteArray} {d:Nat} (hd:d≤18) (h:isNumS s d=true) (S:List LV) (K:Int×LV×Unit→List LV→Option R):H.Atoi.fn k (s,()) S K=K (numV s,.nili,()) S:=by
 unfold isNumS at h
 rw [isNumL_iff] at h
 obtain ⟨h1,h2,h3,_⟩:=h
 have e:Lib.atoiAll s.data.toList = .ok (valL (toL s):Int):=atoiAll_num h1 (show (toL s).length≤18 by omega) h3
 unfold H.Atoi.fn atoiF
 dsimp only
 rw [e]
 have hs:=toL_len s
 dsimp only
 have h9:s.size≤9223372036854775806:=by omega
 rw [decide_eq_true h9]
 rfl
end
end Go.Lm
set_option maxRecDepth 100000
namespace Go.Lm
section
variable {R:Type}
theorem idx_str0 (a:ByteArray) (l:List ByteArray) (K:LV→Option R):idxL ((a::l).map LV.str) 0 K=K (.str a):=idxL_nat (xs:=(a::l).map LV.str) (i:=0) (by simp) K
theorem idx_str1 (a b:ByteArray) (l:List ByteArray) (K:LV→Option R):idxL ((a::b::l).map LV.str) 1 K=K (.str b):=idxL_nat (xs:=(a::b::l).map LV.str) (i:=1) (by simp) K
theorem idx_str2 (a b c:ByteArray) (l:List ByteArray) (K:LV→Option R):idxL ((a::b::c::l).map LV.str) 2 K=K (.str c):=idxL_nat (xs:=(a::b::c::l).map LV.str) (i:=2) (by simp) K
theorem idx_str3 (a b c d:ByteArray) (l:List ByteArray) (K:LV→Option R):idxL ((a::b::c::d::l).map LV.str) 3 K=K (.str d):=idxL_nat (xs:=(a::b::c::d::l).map LV.str) (i:=3) (by simp) K
theorem asLeaf_str (a:ByteArray) (K:ByteArray→Option R):asStr (leaf (.str a) 0) K=K a:=rfl
def ow (e z:Nat) (l:List LV):LV:=match l with
 |[]=>.nilsl
 |l=>.own e z l
theorem at_of {S:List LV} {id t:Nat} {xs:List LV} (h:S.getD id .any = .obj t xs) (K:(List LV→LV)→List LV→Option R):objAt S id K=K (.obj t) xs:=by
 unfold objAt
 rw [h]
end
end Go.Lm
set_option maxRecDepth 100000
namespace Go.Lm
section
variable {R:Type}
def allB (lo hi:Int) (s:ByteArray):Bool:=scan (fun i=>cond (decide (lo≤bt s i)&&decide (bt s i≤hi)) none (some false)) true s.size 0
theorem scan_cond {β:Type} (p:Nat→Bool) (a b:β):∀d i,scan (fun j=>cond (p j) none (some a)) b d i=cond (scan (fun j=>cond (p j) none (some false)) true d i) b a
 |0,_=>rfl
 |d+1,i=>by
  have ih:=scan_cond p a b d (i+1)
  simp only [scan]
  cases p i with
  |true=>exact ih
  |false=>rfl
theorem scan_first {α β:Type} (z:α) (p:α→Bool) (a b:β):∀(l m:List α),scan (fun i=>cond (p ((m++l).getD i z)) (some a) none) b l.length m.length=cond (l.any p) a b
 |[],m=>rfl
 |x::l,m=>by
  have e:(m++x::l).getD m.length z=x:=by simp [List.getD_eq_getElem?_getD]
  have ih:=scan_first z p a b l (m++[x])
  simp only [List.length_append,List.length_cons,List.length_nil,Nat.zero_add,List.append_assoc,List.cons_append,List.nil_append] at ih
  simp only [List.length_cons,scan,List.any_cons,e]
  cases p x with
  |true=>rfl
  |false=>exact ih
theorem scan_first0 {α β:Type} (z:α) (p:α→Bool) (a b:β) (l:List α):scan (fun i=>cond (p (l.getD i z)) (some a) none) b l.length 0=cond (l.any p) a b:=scan_first z p a b l []
def isWordS (s:ByteArray):Bool:=allB 33 126 s&&(decide (1≤s.size)&&decide (s.size≤300))
theorem prog_isWord {k:Nat} (hk:Many k) (s:ByteArray) (hs:s.size≤140737488355328) (S:List LV) (K:Bool×Unit→List LV→Option R):G.Qau.fn k (s,()) S K=K (isWordS s,()) S:=by
 unfold Many at hk
 unfold G.Qau.fn isWordS allB
 dsimp only
 refine Eq.trans (rounds_scan0 (fun i=>(s,(s.size:Int),(i:Int),())) S s.size k (fun i=>cond (decide (33≤bt s i)&&decide (bt s i≤126)) none (some (K (false,()) S))) (K (decide (1≤s.size)&&decide (s.size≤300),()) S) (fun rec i hi=>?_) (fun rec=>?_) (by omega)) ?_
 ·unfold G.Qau.b0
  dsimp only
  rw [lt_nat,ifB_pos hi,idxStr_nat hi,idxStr_nat hi,wrap_succ (by omega)]
  by_cases h1:bt s (i:Int)<33
  ·have h2:¬ (33≤bt s (i:Int)):=by omega
   simp [h1,h2]
  ·have h2:33≤bt s (i:Int):=by omega
   by_cases h3:bt s (i:Int)>126
   ·have h4:¬ (bt s (i:Int)≤126):=by omega
    simp [h1,h2,h3,h4]
   ·have h4:bt s (i:Int)≤126:=by omega
    simp [h1,h2,h3,h4]
 ·unfold G.Qau.b0
  dsimp only
  rw [lt_nat,ifB_neg (Nat.lt_irrefl _)]
  by_cases h1:1≤s.size
  ·rw [ifB_pos (show (s.size:Int)≥1 by omega),decide_eq_true h1,Bool.true_and]
   by_cases h2:s.size≤300
   ·rw [decide_eq_true h2,decide_eq_true (show (s.size:Int)≤300 by omega)]
   ·rw [decide_eq_false h2,decide_eq_false (show ¬ (s.size:Int)≤300 by omega)]
  ·rw [ifB_neg (show ¬ (s.size:Int)≥1 by omega),decide_eq_false h1,Bool.false_and]
 ·rw [scan_cond]
  cases scan (fun j=>cond (decide (33≤bt s (j:Int))&&decide (bt s (j:Int)≤126)) none (some false)) true s.size 0<;>rfl
def badWords (c:List ByteArray):Bool:=c.any fun w=>!(isWordS w)
theorem get_size {l:List ByteArray} {n:Nat} (h:∀w∈l,w.size≤n) (i:Nat) (hi:i<l.length):(l.getD i (bs [])).size≤n:=h _ (by rw [List.getD_eq_getElem?_getD,List.getElem?_eq_getElem hi];exact List.getElem_mem hi)
theorem prog_words {k:Nat} (hk:Many k) (c:List ByteArray) (hc:c.length≤140737488355328) (hs:∀w∈c,w.size≤140737488355328) (S:List LV) (K:Bool×Unit→List LV→Option R) :
  G.Qcu.fn k (c.map .str,(),()) S K=K (badWords c,()) S:=by
 have hk':=hk
 unfold Many at hk'
 unfold G.Qcu.fn G.Qcz.fn
 dsimp only
 rw [List.length_map]
 have h:=rounds_scan0 (b:=G.Qcz.b0 k (fun (_:Unit) S=>K (decide ((-1:Int)≥0),()) S) (fun (o5:Int×Unit) S=>K (decide (o5.1≥0),()) S)) (fun i=>(c.map LV.str,(),(c.length:Int),(i:Int),())) S c.length k (fun i=>cond (!(isWordS (c.getD i (bs [])))) (some (K (true,()) S)) none) (K (false,()) S) (fun rec i hi=>?_) (fun rec=>?_) (by omega)
 ·refine Eq.trans h ?_
  rw [scan_first0 (bs []) (fun w=>!(isWordS w))]
  unfold badWords
  cases c.any fun w=>!(isWordS w)<;>rfl
 ·unfold G.Qcz.b0 G.Qak.fn
  dsimp only
  rw [lt_nat,ifB_pos hi,idxL_nat (by simpa using hi),map_str_get c i hi]
  simp only [asLeaf_str]
  rw [prog_isWord hk _ (get_size hs i hi),wrap_succ (by omega)]
  dsimp only
  have e:decide ((i:Int)≥0)=true:=decide_eq_true (by omega)
  cases isWordS (c.getD i (bs [])) with
  |true=>rfl
  |false =>
   show K (decide ((i:Int)≥0),()) S=K (true,()) S
   rw [e]
 ·unfold G.Qcz.b0
  dsimp only
  rw [lt_nat,ifB_neg (Nat.lt_irrefl _)]
  rfl
def formS (w:ByteArray):ByteArray:=cond (strEq w (bs [106,111,105,110])) (bs [112,112,43]) (cond (strEq w (bs [115,111,114,116])) (bs [112,112]) (cond (strEq w (bs [99,111,117,110,116])) (bs [112,112]) (cond (strEq w (bs [101,120,112,97,110,100])) (bs [112,112]) (cond (strEq w (bs [109,97,107,101])) (bs [112,112]) (cond (strEq w (bs [100,105,103,101,115,116])) (bs [112,112]) (cond (strEq w (bs [108,105,115,116])) (bs [112,112]) (cond (strEq w (bs [102,105,114,115,116])) (bs [112,110,112]) (cond (strEq w (bs [99,104,97,110,103,101])) (bs [112,119,119,112]) (cond (strEq w (bs [112,105,99,107])) (bs [112,112,112,43]) (cond (strEq w (bs [118,97,114])) (bs [112,119]) (cond (strEq w (bs [116,101,108,108])) (bs [119,43]) (cond (strEq w (bs [110,101,101,100])) (bs [112]) (cond (strEq w (bs [115,97,109,101])) (bs [112,112]) (cond (strEq w (bs [102,97,105,108])) (bs [110]) (bs [])))))))))))))))
theorem prog_formOf (k:Nat) (w:ByteArray) (S:List LV) (K:ByteArray×Unit→List LV→Option R):G.Qar.fn k (w,()) S K=K (formS w,()) S:=by
 unfold G.Qar.fn G.Qar.q0 G.Qar.q1 G.Qar.q2 G.Qar.q3 G.Qar.q4 G.Qar.q5 G.Qar.q6 G.Qar.q7 formS
 dsimp only
 generalize strEq w (bs [106,111,105,110])=b0
 generalize strEq w (bs [115,111,114,116])=b1
 generalize strEq w (bs [99,111,117,110,116])=b2
 generalize strEq w (bs [101,120,112,97,110,100])=b3
 generalize strEq w (bs [109,97,107,101])=b4
 generalize strEq w (bs [100,105,103,101,115,116])=b5
 generalize strEq w (bs [108,105,115,116])=b6
 generalize strEq w (bs [102,105,114,115,116])=b7
 generalize strEq w (bs [99,104,97,110,103,101])=b8
 generalize strEq w (bs [112,105,99,107])=b9
 generalize strEq w (bs [118,97,114])=b10
 generalize strEq w (bs [116,101,108,108])=b11
 generalize strEq w (bs [110,101,101,100])=b12
 generalize strEq w (bs [115,97,109,101])=b13
 generalize strEq w (bs [102,97,105,108])=b14
 cases b0 with
 |true=>rfl
 |false =>
  cases b1 with
  |true=>rfl
  |false =>
   cases b2 with
   |true=>rfl
   |false =>
    cases b3 with
    |true=>rfl
    |false =>
     cases b4 with
     |true=>rfl
     |false =>
      cases b5 with
      |true=>rfl
      |false =>
       cases b6 with
       |true=>rfl
       |false =>
        cases b7 with
        |true=>rfl
        |false =>
         cases b8 with
         |true=>rfl
         |false =>
          cases b9 with
          |true=>rfl
          |false =>
           cases b10 with
           |true=>rfl
           |false =>
            cases b11 with
            |true=>rfl
            |false =>
             cases b12 with
             |true=>rfl
             |false =>
              cases b13 with
              |true=>rfl
              |false =>
               cases b14 with
               |true=>rfl
               |false =>
                rfl
end
end Go.Lm
set_option maxRecDepth 100000
namespace Go.Lm
section
variable {R:Type}
def hasPlus (f:ByteArray):Bool:=decide (1≤f.size)&&strEq (f.extract (f.size-1) f.size) (bs [43])
def cutPlus (f:ByteArray):ByteArray×Bool:=cond (hasPlus f) (f.extract 0 (f.size-1),true) (f,false)
theorem wrap_sub1 {n:Nat} (h:1≤n) (h2:n≤140737488355328):IntKind.wrap .i64 ((n:Int)-1)=((n-1:Nat):Int):=wrap_pred (by omega) (by omega)
theorem CutSuffix_at (k:Nat) (f:ByteArray) (hf:f.size≤140737488355328) (S:List LV) (K:ByteArray×Bool×Unit→List LV→Option R):G.Qdo.fn k (f,bs [43],()) S K=K ((cutPlus f).1,(cutPlus f).2,()) S:=by
 unfold G.Qdo.fn G.Qcb.fn G.Qcd.fn cutPlus hasPlus
 have e1:((bs [43]).size:Int)=1:=rfl
 dsimp only
 rw [e1]
 by_cases h1:1≤f.size
 ·rw [ifB_pos (show (f.size:Int)≥1 by omega),decide_eq_true h1,wrap_sub1 h1 hf]
  have e2:∀K:ByteArray→Option R,slStr f ((f.size-1:Nat):Int) (f.size:Int) K=K (f.extract (f.size-1) f.size):=fun K=>by
   unfold slStr
   rw [ifB_pos ⟨by omega,by omega,by omega⟩];rfl
  have e3:∀K:ByteArray→Option R,slStr f (0:Int) ((f.size-1:Nat):Int) K=K (f.extract 0 (f.size-1)):=fun K=>slStr_nat (by omega) K
  rw [e2,e3,Bool.true_and]
  cases strEq (f.extract (f.size-1) f.size) (bs [43])<;>rfl
 ·rw [ifB_neg (show ¬ (f.size:Int)≥1 by omega),decide_eq_false h1]
  rfl
theorem formS_cases {P:ByteArray→Prop} (w:ByteArray) (h0:P (bs [])) (h1:P (bs [112,112,43])) (h2:P (bs [112,112])) (h3:P (bs [112,110,112])) (h4:P (bs [112,119,119,112])) (h5:P (bs [112,112,112,43])) (h6:P (bs [112,119])) (h7:P (bs [119,43])) (h8:P (bs [112])) (h9:P (bs [110])):P (formS w):=by
 unfold formS
 cases strEq w (bs [106,111,105,110]) with
 |true=>exact h1
 |false =>
 rw [cond_false]
 cases strEq w (bs [115,111,114,116]) with
 |true=>exact h2
 |false =>
 rw [cond_false]
 cases strEq w (bs [99,111,117,110,116]) with
 |true=>exact h2
 |false =>
 rw [cond_false]
 cases strEq w (bs [101,120,112,97,110,100]) with
 |true=>exact h2
 |false =>
 rw [cond_false]
 cases strEq w (bs [109,97,107,101]) with
 |true=>exact h2
 |false =>
 rw [cond_false]
 cases strEq w (bs [100,105,103,101,115,116]) with
 |true=>exact h2
 |false =>
 rw [cond_false]
 cases strEq w (bs [108,105,115,116]) with
 |true=>exact h2
 |false =>
 rw [cond_false]
 cases strEq w (bs [102,105,114,115,116]) with
 |true=>exact h3
 |false =>
 rw [cond_false]
 cases strEq w (bs [99,104,97,110,103,101]) with
 |true=>exact h4
 |false =>
 rw [cond_false]
 cases strEq w (bs [112,105,99,107]) with
 |true=>exact h5
 |false =>
 rw [cond_false]
 cases strEq w (bs [118,97,114]) with
 |true=>exact h6
 |false =>
 rw [cond_false]
 cases strEq w (bs [116,101,108,108]) with
 |true=>exact h7
 |false =>
 rw [cond_false]
 cases strEq w (bs [110,101,101,100]) with
 |true=>exact h8
 |false =>
 rw [cond_false]
 cases strEq w (bs [115,97,109,101]) with
 |true=>exact h2
 |false =>
 rw [cond_false]
 cases strEq w (bs [102,97,105,108]) with
 |true=>exact h9
 |false=>exact h0
theorem formS_size (w:ByteArray):(formS w).size≤4:=formS_cases (P:=fun f=>f.size≤4) w (by decide) (by decide) (by decide) (by decide) (by decide) (by decide) (by decide) (by decide) (by decide) (by decide)
theorem formS_sorts (w:ByteArray):strEq (formS w) (bs [])=true∨1≤(cutPlus (formS w)).1.size :=
 formS_cases (P:=fun f=>strEq f (bs [])=true∨1≤(cutPlus f).1.size) w (by decide +kernel) (by decide +kernel) (by decide +kernel) (by decide +kernel) (by decide +kernel) (by decide +kernel) (by decide +kernel) (by decide +kernel) (by decide +kernel) (by decide +kernel)
theorem cutPlus_size (f:ByteArray):(cutPlus f).1.size≤f.size:=by
 unfold cutPlus
 cases hasPlus f with
 |false=>exact Nat.le_refl _
 |true =>
  show (f.extract 0 (f.size-1)).size≤f.size
  rw [ByteArray.size_extract];omega
def fitsS (c:Int) (w:ByteArray):Bool:=cond (c==112) (isPathS w) (cond (c==110) (isNumS w 6) true)
def stepF (ws:List ByteArray) (sorts:ByteArray) (i:Nat):Bool:=fitsS (bt sorts ((min i (sorts.size-1):Nat):Int)) (ws.getD i (bs []))
def formedL (ws:List ByteArray) (sorts:ByteArray):Bool:=scan (fun i=>cond (stepF ws sorts i) none (some false)) true ws.length 0
def formedS (ws:List ByteArray) (f:ByteArray):Bool:=cond (decide (ws.length<(cutPlus f).1.size)) false (cond (decide (ws.length>(cutPlus f).1.size)) (cond (cutPlus f).2 (formedL ws (cutPlus f).1) false) (formedL ws (cutPlus f).1))
theorem minI_nat (i n:Nat):minI (i:Int) (n:Int)=((min i n:Nat):Int):=by
 unfold minI
 split<;>omega
theorem sort_at {sorts:ByteArray} (h1:1≤sorts.size) (h2:sorts.size≤140737488355328) (i:Nat) (K:Int→Option R):idxStr sorts (minI (i:Int) (IntKind.wrap .i64 ((sorts.size:Int)-1))) K=K (bt sorts ((min i (sorts.size-1):Nat):Int)):=by
 rw [wrap_sub1 h1 h2,minI_nat,idxStr_nat (by omega)]
theorem prog_forms {k:Nat} (hk:Many k) (ws:List ByteArray) (hl:ws.length≤140737488355328) (hw:∀w∈ws,w.size≤140737488355328) (sorts:ByteArray) (h1:1≤sorts.size) (h2:sorts.size≤140737488355328) (S:List LV) (J0:Unit→List LV→Option R) (Jret:Bool×Unit→List LV→Option R) :
  rounds (G.Qas.b0 k J0 Jret) k (sorts,ws.map .str,(ws.length:Int),(0:Int),()) S=cond (formedL ws sorts) (J0 () S) (Jret (false,()) S):=by
 have hk':=hk
 unfold Many at hk'
 have h:=rounds_scan0 (b:=G.Qas.b0 k J0 Jret) (fun i=>(sorts,ws.map LV.str,(ws.length:Int),(i:Int),())) S ws.length k (fun i=>cond (stepF ws sorts i) none (some (Jret (false,()) S))) (J0 () S) (fun rec i hi=>?_) (fun rec=>?_) (by omega)
 ·refine Eq.trans h ?_
  rw [scan_cond];rfl
 ·unfold G.Qas.b0 G.Qas.q2 G.Qas.q3 G.Qas.q4 G.Qas.q5 G.Qas.q6 G.Qas.q7
  dsimp only
  rw [lt_nat,ifB_pos hi,idxL_nat (by simpa using hi),map_str_get ws i hi,wrap_succ (by omega)]
  simp only [asLeaf_str,sort_at h1 h2]
  unfold stepF fitsS
  have hz:=get_size hw i hi
  generalize ws.getD i (bs [])=w at hz
  generalize bt sorts ((min i (sorts.size-1):Nat):Int)=c
  have e1:∀K:Bool×Unit→List LV→Option R,G.Qat.fn k (w,6,()) S K=K (isNumS w 6,()) S:=fun K=>isNumber_at k w 6 hz S K
  simp only [prog_IsPath hk,e1]
  cases c==112 with
  |true=>cases isPathS w<;>rfl
  |false =>
   cases c==110 with
   |true=>cases isNumS w 6<;>rfl
   |false=>rfl
 ·unfold G.Qas.b0 G.Qas.q2
  dsimp only
  rw [lt_nat,ifB_neg (Nat.lt_irrefl _)]
theorem prog_hasForm {k:Nat} (hk:Many k) (ws:List ByteArray) (hl:ws.length≤140737488355328) (hw:∀w∈ws,w.size≤140737488355328) (f:ByteArray) (h1:1≤(cutPlus f).1.size) (h2:f.size≤140737488355328) (S:List LV) (K:Bool×Unit→List LV→Option R) :
  G.Qas.fn k (ws.map .str,f,()) S K=K (formedS ws f,()) S:=by
 unfold G.Qas.fn G.Qas.q1 G.Qas.q0 formedS
 dsimp only
 have h3:=Nat.le_trans (cutPlus_size f) h2
 rw [CutSuffix_at k f h2]
 dsimp only
 rw [List.length_map,prog_forms hk ws hl hw _ h1 h3,lt_nat,gt_nat]
 cases decide (ws.length<(cutPlus f).1.size) with
 |true=>rfl
 |false =>
  cases decide (ws.length>(cutPlus f).1.size) with
  |true =>
   cases (cutPlus f).2 with
   |true =>
    show cond _ _ _=_
    cases formedL ws (cutPlus f).1<;>rfl
   |false=>rfl
  |false =>
   show cond _ _ _=_
   cases formedL ws (cutPlus f).1<;>rfl
theorem fail_len {w:ByteArray} {ws:List ByteArray} (h:strEq w (bs [102,97,105,108])=true) (h2:formedS ws (formS w)=true):∃v vs,ws=v::vs:=by
 rw [strEq_iff] at h
 subst h
 have e1:(cutPlus (formS (bs [102,97,105,108]))).1.size=1:=by decide +kernel
 unfold formedS at h2
 rw [e1] at h2
 cases ws with
 |nil=>exact absurd h2 (by decide)
 |cons v vs=>exact ⟨v,vs,rfl⟩
def noFail (w:ByteArray) (ws:List ByteArray):Bool:=!(strEq w (bs [102,97,105,108])&&strEq (ws.getD 0 (bs [])) (bs [48]))
theorem tail_at (w:ByteArray) (ws:List ByteArray) (K:List LV→Option R):slL ((w::ws).map LV.str) 1 (((w::ws).map LV.str).length:Int) K=K (ws.map .str):=by
 unfold slL
 rw [ifB_pos ⟨by omega,by simp;omega,by simp⟩]
 simp only [Int.toNat_natCast]
 rw [List.take_of_length_le (Nat.le_refl _)]
 rfl
def cmdS (c:List ByteArray):Int:=cond (decide (c.length=0)) 9 (cond (decide (c.length>50)) 2 (cond (badWords c) 3 (cond (strEq (formS (c.getD 0 (bs []))) (bs [])) 4 (cond (formedS c.tail (formS (c.getD 0 (bs [])))&&noFail (c.getD 0 (bs [])) c.tail) 0 3))))
theorem prog_checkCommand {k:Nat} (hk:Many k) (c:List ByteArray) (hs:∀w∈c,w.size≤140737488355328) (S:List LV) (K:Int×Unit→List LV→Option R):G.Qaj.fn k (c.map .str,()) S K=K (cmdS c,()) S:=by
 unfold G.Qaj.fn
 cases c with
 |nil=>rfl
 |cons w ws =>
  unfold cmdS
  dsimp only
  rw [show ((((w::ws).map LV.str).length:Int)==0)=false by rw [beq_eq_false_iff_ne];simp;omega,ifB_false,decide_eq_false (show ¬ (w::ws).length=0 by simp),cond_false]
  have hle:(((w::ws).map LV.str).length:Int)=((w::ws).length:Int):=by rw [List.length_map]
  rw [show decide ((((w::ws).map LV.str).length:Int)>50)=decide ((w::ws).length>50) by rw [hle];exact gt_nat _ 50]
  cases hl:decide ((w::ws).length>50) with
  |true=>rfl
  |false =>
   have hlen:(w::ws).length≤50:=by have:=of_decide_eq_false hl;omega
   rw [ifB_false,prog_words hk _ (by omega) hs]
   dsimp only
   cases badWords (w::ws) with
   |true=>rfl
   |false =>
    simp only [ifB_false,idx_str0,asLeaf_str,prog_formOf,List.getD_cons_zero,List.tail_cons,cond_false,tail_at]
    cases hf:strEq (formS w) (bs []) with
    |true=>rfl
    |false =>
     have h1:1≤(cutPlus (formS w)).1.size:=by
      rcases formS_sorts w with h|h
      ·rw [hf] at h;cases h
      ·exact h
     have h2:=formS_size w
     simp only [ifB_false]
     rw [prog_hasForm hk ws (by simp only [List.length_cons] at hlen;omega) (fun x hx=>hs x (by simp [hx])) _ h1 (by omega)]
     dsimp only
     cases hg:formedS ws (formS w) with
     |false=>rfl
     |true =>
      unfold noFail
      cases hq:strEq w (bs [102,97,105,108]) with
      |false=>rfl
      |true =>
       obtain ⟨v,vs,rfl⟩:=fail_len hq hg
       simp only [Bool.not_true,ifB_false,ifB_true,idx_str1,asLeaf_str,List.getD_cons_zero,Bool.true_and]
       cases strEq v (bs [48])<;>rfl
end
end Go.Lm
set_option maxRecDepth 100000
namespace Go.Lm
section
variable {R:Type}
def smallB (c:Int):Bool:=decide (c≥97)&&decide (c≤122)
def digitB (c:Int):Bool:=decide (c≥48)&&decide (c≤57)
def keyWords:List ByteArray:=[bs [109,97,99,114,111],bs [102,111,114],bs [105,110],bs [105,102],bs [101,108,115,101],bs [117,115,101],bs [102,105,108,101,115],bs [99,104,111,111,115,101]]
def nameAt (s:ByteArray) (i:Nat):Bool:=smallB (bt s i)||(!(decide (i=0))&&(digitB (bt s i)||(bt s i==95)))
def isNameS (s:ByteArray):Bool:=scan (fun i=>cond (nameAt s i) none (some false)) true s.size 0&&(!(keyWords.any (strEq s))&&(decide (1≤s.size)&&decide (s.size≤40)))
theorem eq0_nat (i:Nat):((i:Int)==0)=decide (i=0):=by
 by_cases h:i=0
 ·subst h;rfl
 ·rw [decide_eq_false h,beq_eq_false_iff_ne];omega
theorem prog_words8 (k:Nat) (S:List LV) (K:List LV×Unit→List LV→Option R):G.Qcl.fn k () S K=K (keyWords.map .str,()) S:=rfl
theorem prog_isSmall (k:Nat) (c:Int) (S:List LV) (K:Bool×Unit→List LV→Option R):G.Qck.fn k (c,()) S K=K (smallB c,()) S:=by
 unfold G.Qck.fn smallB
 dsimp only
 cases decide (c≥97)<;>rfl
theorem prog_isDigit (k:Nat) (c:Int) (S:List LV) (K:Bool×Unit→List LV→Option R):G.Qcj.fn k (c,()) S K=K (digitB c,()) S:=by
 unfold G.Qcj.fn digitB
 dsimp only
 cases decide (c≥48)<;>rfl
theorem prog_IsName {k:Nat} (hk:Many k) (s:ByteArray) (S:List LV) (K:Bool×Unit→List LV→Option R):G.Qci.fn k (s,()) S K=K (isNameS s,()) S:=by
 have hk':=hk
 unfold Many at hk'
 unfold G.Qci.fn
 dsimp only
 by_cases h1:1≤s.size
 ·rw [ifB_neg (show ¬ (s.size:Int)<1 by omega)]
  by_cases h2:s.size≤40
  ·rw [ifB_neg (show ¬ (s.size:Int)>40 by omega)]
   have e0:∀K':Int→Option R,idxStr s 0 K'=K' (bt s 0):=fun K'=>idxStr_nat (i:=0) (by omega) K'
   rw [e0,prog_isSmall]
   dsimp only
   obtain ⟨d,hd⟩:∃d,s.size=d+1:=⟨s.size-1,by omega⟩
   have hn:isNameS s=(scan (fun i=>cond (nameAt s i) none (some false)) true s.size 0&&!(keyWords.any (strEq s))):=by
    unfold isNameS
    rw [decide_eq_true h1,decide_eq_true h2]
    cases keyWords.any (strEq s)<;>rfl
   cases hsm:smallB (bt s 0) with
   |false =>
    rw [Bool.not_false,ifB_true,hn,hd]
    have:nameAt s 0=false:=by
     unfold nameAt
     show (smallB (bt s 0)||_)=false
     rw [hsm];rfl
    simp only [scan,this]
    rfl
   |true =>
    rw [Bool.not_true,ifB_false,hn]
    refine Eq.trans (rounds_scan0 (fun i=>(s,(s.size:Int),(i:Int),())) S s.size k (fun i=>cond (nameAt s i) none (some (K (false,()) S))) (K (!(keyWords.any (strEq s)),()) S) (fun rec i hi=>?_) (fun rec=>?_) (by omega)) ?_
    ·unfold G.Qci.b0
     dsimp only
     rw [lt_nat,ifB_pos hi]
     simp only [idxStr_nat hi,wrap_succ (show i<9223372036854775807 by omega),prog_isSmall,prog_isDigit]
     have hna:nameAt s i=(smallB (bt s i)||(digitB (bt s i)||(bt s i==95))):=by
      unfold nameAt
      by_cases hi0:i=0
      ·subst hi0
       show (smallB (bt s 0)||_)=(smallB (bt s 0)||_)
       rw [hsm];rfl
      ·rw [decide_eq_false hi0];rfl
     rw [hna]
     have e1:(bt s (i:Int) != 95) = !(bt s (i:Int)==95):=rfl
     rw [e1]
     cases smallB (bt s (i:Int))<;>cases digitB (bt s (i:Int))<;>cases (bt s (i:Int)==95)<;>rfl
    ·unfold G.Qci.b0
     dsimp only
     rw [lt_nat,ifB_neg (Nat.lt_irrefl _),prog_words8]
     dsimp only
     rw [contains_at hk keyWords (by decide)]
    ·rw [scan_cond]
     cases scan (fun j=>cond (nameAt s j) none (some false)) true s.size 0<;>rfl
  ·rw [ifB_pos (show (s.size:Int)>40 by omega)]
   have:isNameS s=false:=by
    unfold isNameS
    rw [decide_eq_false h2];simp
   rw [this]
 ·rw [ifB_pos (show (s.size:Int)<1 by omega)]
  have:isNameS s=false:=by
   unfold isNameS
   rw [decide_eq_false h1];simp
  rw [this]
theorem idx_okF {ok:Int→Bool} (hh:∀c,128≤c→ok c=false) {p:Nat→Bool} (hp:∀x,x≤1114111→p x = !(ok (x:Int))) (s:ByteArray):∀(f pos:Nat),s.size≤pos+f→decide (Lib.idxFuncFrom p true s f pos≥0) = !(scan (fun i=>cond (ok (bt s i)) none (some false)) true (s.size-pos) pos)
 |0,pos,h=>by
  have:s.size-pos=0:=by omega
  rw [this];rfl
 |f+1,pos,h=>by
  unfold Lib.idxFuncFrom
  by_cases hps:pos<s.size
  ·obtain ⟨d,hd⟩:∃d,s.size-pos=d+1:=⟨s.size-pos-1,by omega⟩
   rw [if_pos hps,hd]
   simp only [scan]
   rw [hp _ (Lib.rune_le s pos)]
   have hb:=bt_nat hps
   rcases Nat.lt_or_ge (s[pos]'hps).toNat 128 with h1|h1
   ·rw [decode_ascii s pos hps h1,←hb]
    cases ho:ok (bt s pos) with
    |true =>
     have ih:=idx_okF hh hp s f (pos+1) (by omega)
     have:s.size-(pos+1)=d:=by omega
     rw [this] at ih
     simpa using ih
    |false=>simp
   ·obtain ⟨h2,_⟩:=decode_high s pos hps h1
    have h3:ok (((Utf8.decode s pos).1:Nat):Int)=false:=hh _ (by omega)
    have h4:ok (bt s pos)=false:=hh _ (by rw [hb];omega)
    rw [h3,h4]
    simp
  ·have:s.size-pos=0:=by omega
   rw [if_neg hps,this];rfl
def okV (c:Int):Bool:=decide (32≤c)&&decide (c≤126)
theorem pred_var (k x:Nat):predA ((G.Qao.en (R:=Bool) k).h) x=some (!(okV (x:Int))):=by
 show (G.Qao.fn k ((x:Int),()) [] fun r S=>(match resE G.Qao.rs r with | .bool b=>some b|_=>none):Option Bool)=_
 unfold G.Qao.fn okV
 dsimp only
 by_cases h1:(x:Int)<32
 ·have h2:¬ (32≤(x:Int)):=by omega
  rw [ifB_pos h1]
  simp only [h2,decide_false,Bool.false_and]
  rfl
 ·have h2:32≤(x:Int):=by omega
  rw [ifB_neg h1]
  by_cases h3:(x:Int)>126
  ·have h4:¬ ((x:Int)≤126):=by omega
   simp only [h3,h4,decide_false,decide_true,Bool.and_false]
   rfl
  ·have h4:(x:Int)≤126:=by omega
   simp only [h2,h3,h4,decide_false,decide_true,Bool.and_true]
   rfl
theorem prog_badValue (k:Nat) (s:ByteArray) (S:List LV) (K:Bool×Unit→List LV→Option R):G.Qdm.fn k (s,(),()) S K=K (!(allB 32 126 s),()) S:=by
 unfold G.Qdm.fn G.Qdr.fn H.indexFunc_at_action_checkVars_1.fn H.indexFunc.fn handF idxFF
 dsimp only
 have hok:H.indexFuncOk ((G.Qao.en (R:=Bool) k).h):=fun x _=>by rw [pred_var];simp
 rw [show (Classical.propDecidable (H.indexFuncOk ((G.Qao.en (R:=Bool) k).h))).decide=true from @decide_eq_true _ (Classical.propDecidable _) hok]
 dsimp only
 have h:=idx_okF (ok:=okV) (fun c hc=>by unfold okV;rw [decide_eq_false (show ¬ c≤126 by omega),Bool.and_false]) (p:=fun x=>(predA ((G.Qao.en (R:=Bool) k).h) x).getD false) (fun x _=>by simp only [pred_var];rfl) s s.size 0 (by omega)
 rw [Nat.sub_zero] at h
 have e:allB 32 126 s=scan (fun i=>cond (okV (bt s i)) none (some false)) true s.size 0:=rfl
 rw [e,←h]
 rfl
abbrev AVar:=ByteArray×ByteArray
def varL (x:AVar):LV:=.agg [.str x.1,.str x.2]
def varZ:AVar:=(bs [],bs [])
def varS (l:List AVar) (i:Nat):Option Int :=
 cond (!(isNameS (l.getD i varZ).1)) (some 5) (cond (decide ((l.getD i varZ).2.size>300)||!(allB 32 126 (l.getD i varZ).2)) (some 3)
  (cond (decide (0<i)&&(strLt (l.getD i varZ).1 (l.getD (i-1) varZ).1||strEq (l.getD i varZ).1 (l.getD (i-1) varZ).1)) (some 8) none))
def varsS (l:List AVar):Int:=cond (decide (l.length>30)) 2 (scan (varS l) 0 l.length 0)
theorem var_get (l:List AVar) (i:Nat) (h:i<l.length):(l.map varL).getD i .any=varL (l.getD i varZ):=by simp [List.getD_eq_getElem?_getD,h]
theorem varL_mat (x:AVar) (K:List LV→Option R):mat 2 (varL x) K=K [.str x.1,.str x.2]:=rfl
theorem varL_0 (x:AVar) (K:ByteArray→Option R):asStr (leaf (varL x) 0) K=K x.1:=rfl
theorem mem_get {α:Type} {l:List α} {i:Nat} {z:α} (h:i<l.length):l.getD i z∈l:=by
 rw [List.getD_eq_getElem?_getD,List.getElem?_eq_getElem h];exact List.getElem_mem h
theorem var_prev (l:List AVar) (i:Nat) (hi:i<l.length) (hl:l.length≤140737488355328) (a:Option R) (J:Option R) :
  ifB (decide ((i:Int)>0)) (idxL (l.map varL) (IntKind.wrap .i64 ((i:Int)-1)) fun v=>asStr (leaf v 0) fun s=>ifB (strLt (l.getD i varZ).1 s||strEq (l.getD i varZ).1 s) a J) J =
   cond (decide (0<i)&&(strLt (l.getD i varZ).1 (l.getD (i-1) varZ).1||strEq (l.getD i varZ).1 (l.getD (i-1) varZ).1)) a J:=by
 by_cases h0:0<i
 ·rw [ifB_pos (show (i:Int)>0 by omega),decide_eq_true h0,wrap_pred h0 (by omega),idxL_nat (by simp;omega),var_get _ _ (by omega),varL_0,Bool.true_and]
  cases (strLt (l.getD i varZ).1 (l.getD (i-1) varZ).1||strEq (l.getD i varZ).1 (l.getD (i-1) varZ).1)<;>rfl
 ·rw [ifB_neg (show ¬ (i:Int)>0 by omega),decide_eq_false h0];rfl
theorem gt300 (n:Nat):decide ((n:Int)>300)=decide (n>300):=gt_nat n 300
theorem prog_checkVars {k:Nat} (hk:Many k) (l:List AVar) (S:List LV) (K:Int×Unit→List LV→Option R):G.Qan.fn k (l.map varL,()) S K=K (varsS l,()) S:=by
 have hk':=hk
 unfold Many at hk'
 unfold G.Qan.fn varsS
 dsimp only
 rw [List.length_map,show decide ((l.length:Int)>30)=decide (l.length>30) from gt_nat _ 30]
 cases hc:decide (l.length>30) with
 |true=>rfl
 |false =>
  have hlen:l.length≤30:=by have:=of_decide_eq_false hc;omega
  rw [ifB_false,cond_false]
  rw [←scan_map (fun n=>K (n,()) S)]
  refine rounds_scan0 (fun i=>(l.map varL,l.map varL,(l.length:Int),(i:Int),())) S l.length k _ _ (fun rec i hi=>?_) (fun rec=>?_) (by omega)
  ·unfold G.Qan.b0 G.Qan.q0
   dsimp only
   have hi2:i<(l.map varL).length:=by simpa using hi
   rw [lt_nat,ifB_pos hi]
   simp only [idxL_nat hi2,var_get _ _ hi,varL_mat,List.getD_cons_zero,List.getD_cons_succ,asStr_str,prog_IsName hk,gt300,wrap_succ (show i<9223372036854775807 by omega),prog_badValue,var_prev l i hi (by omega)]
   unfold varS
   generalize (decide (0<i)&&(strLt (l.getD i varZ).1 (l.getD (i-1) varZ).1||strEq (l.getD i varZ).1 (l.getD (i-1) varZ).1))=b4
   generalize decide ((l.getD i varZ).2.size>300)=b2
   generalize allB 32 126 (l.getD i varZ).2=b3
   generalize isNameS (l.getD i varZ).1=b1
   cases b1<;>cases b2<;>cases b3<;>cases b4<;>rfl
  ·unfold G.Qan.b0
   dsimp only
   rw [lt_nat,ifB_neg (Nat.lt_irrefl _)]
end
end Go.Lm
set_option maxRecDepth 100000
namespace Go.Lm
section
variable {R:Type}
theorem setS_of (S:List LV) (K:List LV→Option R):setS S K=K S:=rfl
def firstE (step:Nat→Option Int) (n:Nat):Option Int:=scan (fun i=>(step i).map some) none n 0
theorem scan_firstE {β:Type} (f:Int→β) (fin:β) (step:Nat→Option Int):∀(d i:Nat),scan (fun j=>(step j).map f) fin d i=((scan (fun j=>(step j).map some) none d i).map f).getD fin
 |0,_=>rfl
 |d+1,i=>by
  have ih:=scan_firstE f fin step d (i+1)
  simp only [scan]
  cases step i with
  |some r=>rfl
  |none=>exact ih
def liesS (p q:ByteArray):Bool:=cond (decide (q.size+1≤p.size)) (strEq (p.extract 0 (q.size+1)) (q++bs [47])) false
theorem prefix_of (k:Nat) (p t:ByteArray) (S:List LV) (K:Bool×Unit→List LV→Option R):G.Qdp.fn k (p,t,()) S K=K (cond (decide (t.size≤p.size)) (strEq (p.extract 0 t.size) t) false,()) S:=by
 unfold G.Qdp.fn G.Qcc.fn
 dsimp only
 by_cases h:t.size≤p.size
 ·rw [ifB_pos (show (p.size:Int)≥(t.size:Int) by omega),decide_eq_true h,slStr_nat h];rfl
 ·rw [ifB_neg (show ¬ (p.size:Int)≥(t.size:Int) by omega),decide_eq_false h];rfl
theorem size_slash (q:ByteArray):(q++bs [47]).size=q.size+1:=by rw [ByteArray.size_append];rfl
theorem cat_slash {q:ByteArray} (h:q.size≤140737488355328) (K:ByteArray→Option R):catStr q (bs [47]) K=K (q++bs [47]):=by
 unfold catStr
 rw [ifB_pos (by have:(bs [47]).size=1:=rfl;omega)]
theorem prog_Within (k:Nat) (p q:ByteArray) (hq:q.size≤140737488355328) (S:List LV) (K:Bool×Unit→List LV→Option R):G.Qbt.fn k (p,q,()) S K=K (liesS p q,()) S:=by
 unfold G.Qbt.fn liesS
 dsimp only
 rw [cat_slash hq,prefix_of,size_slash]
def outS (l:List ByteArray) (i:Nat):Option Int :=
 cond (!(isPathS (l.getD i (bs [])))) (some 3) (cond (decide (0<i)&&(strLt (l.getD i (bs [])) (l.getD (i-1) (bs []))||strEq (l.getD i (bs [])) (l.getD (i-1) (bs [])))) (some 8) none)
def underS (l:List ByteArray) (p:ByteArray):Bool:=l.any fun q=>liesS p q
def outsS (l:List ByteArray):Int:=cond (decide (l.length=0)) 9 (cond (decide (l.length>100)) 2 ((firstE (outS l) l.length).getD (cond (l.any (underS l)) 12 0)))
theorem out_prev (l:List ByteArray) (i:Nat) (hi:i<l.length) (hl:l.length≤140737488355328) (a:Option R) (J:Option R) :
  ifB (decide ((i:Int)>0)) (idxL (l.map LV.str) (IntKind.wrap .i64 ((i:Int)-1)) fun v=>asStr (leaf v 0) fun s=>ifB (strLt (l.getD i (bs [])) s||strEq (l.getD i (bs [])) s) a J) J =
   cond (decide (0<i)&&(strLt (l.getD i (bs [])) (l.getD (i-1) (bs []))||strEq (l.getD i (bs [])) (l.getD (i-1) (bs [])))) a J:=by
 by_cases h0:0<i
 ·rw [ifB_pos (show (i:Int)>0 by omega),decide_eq_true h0,wrap_pred h0 (by omega),idxL_nat (by simp;omega),map_str_get l _ (by omega),asLeaf_str,Bool.true_and]
  cases (strLt (l.getD i (bs [])) (l.getD (i-1) (bs []))||strEq (l.getD i (bs [])) (l.getD (i-1) (bs [])))<;>rfl
 ·rw [ifB_neg (show ¬ (i:Int)>0 by omega),decide_eq_false h0];rfl
theorem prog_outs1 {k:Nat} (hk:Many k) (l:List ByteArray) (hl:l.length≤100) (S:List LV) (J0:List LV×Unit→List LV→Option R) (Jret:Int×Unit→List LV→Option R) :
  rounds (G.Qal.b0 k J0 Jret) k (l.map .str,l.map .str,(l.length:Int),(0:Int),()) S=((firstE (outS l) l.length).map fun n=>Jret (n,()) S).getD (J0 (l.map .str,()) S):=by
 have hk':=hk
 unfold Many at hk'
 unfold firstE
 rw [←scan_firstE]
 refine rounds_scan0 (fun i=>(l.map LV.str,l.map LV.str,(l.length:Int),(i:Int),())) S l.length k _ _ (fun rec i hi=>?_) (fun rec=>?_) (by omega)
 ·unfold G.Qal.b0
  dsimp only
  have hi2:i<(l.map LV.str).length:=by simpa using hi
  rw [lt_nat,ifB_pos hi]
  simp only [idxL_nat hi2,map_str_get l i hi,asLeaf_str,prog_IsPath hk,wrap_succ (show i<9223372036854775807 by omega),out_prev l i hi (by omega)]
  unfold outS
  generalize (decide (0<i)&&(strLt (l.getD i (bs [])) (l.getD (i-1) (bs []))||strEq (l.getD i (bs [])) (l.getD (i-1) (bs []))))=b2
  cases isPathS (l.getD i (bs []))<;>cases b2<;>rfl
 ·unfold G.Qal.b0
  dsimp only
  rw [lt_nat,ifB_neg (Nat.lt_irrefl _)]
theorem prog_under {k:Nat} (hk:Many k) (l:List ByteArray) (hl:l.length≤100) (hs:∀w∈l,w.size≤140737488355328) (p:ByteArray) (id:Nat) (S:List LV) (hS:S.getD id .any = .obj 9 [.str p]) (K:Bool×Unit→List LV→Option R) :
  G.Qcv.fn k (l.map .str,((id,0),()),()) S K=K (underS l p,()) S:=by
 have hk':=hk
 unfold Many at hk'
 unfold G.Qcv.fn G.Qda.fn
 dsimp only
 rw [List.length_map]
 have h:=rounds_scan0 (b:=G.Qda.b0 k (fun (_:Unit) S=>K (decide ((-1:Int)≥0),()) S) (fun (o5:Int×Unit) S=>K (decide (o5.1≥0),()) S)) (fun i=>(l.map LV.str,((id,0),()),(l.length:Int),(i:Int),())) S l.length k (fun i=>cond (liesS p (l.getD i (bs []))) (some (K (true,()) S)) none) (K (false,()) S) (fun rec i hi=>?_) (fun rec=>?_) (by omega)
 ·refine Eq.trans h ?_
  rw [scan_first0 (bs []) (fun q=>liesS p q)]
  unfold underS
  cases l.any fun q=>liesS p q<;>rfl
 ·unfold G.Qda.b0 G.Qam.fn
  dsimp only
  have hi2:i<(l.map LV.str).length:=by simpa using hi
  have hld:∀K:ByteArray→Option R,ldStr [LV.str p] 0 K=K p:=fun _=>rfl
  rw [lt_nat,ifB_pos hi]
  simp only [idxL_nat hi2,map_str_get l i hi,asLeaf_str,at_of hS,hld,prog_Within k _ _ (get_size hs i hi),wrap_succ (show i<9223372036854775807 by omega)]
  have e:decide ((i:Int)≥0)=true:=decide_eq_true (by omega)
  cases liesS p (l.getD i (bs [])) with
  |false=>rfl
  |true =>
   show K (decide ((i:Int)≥0),()) S=K (true,()) S
   rw [e]
 ·unfold G.Qda.b0
  dsimp only
  rw [lt_nat,ifB_neg (Nat.lt_irrefl _)]
  rfl
def boxes (l:List ByteArray) (i:Nat):List LV:=(l.take i).map fun p=>LV.obj 9 [.str p]
theorem boxes_succ (l:List ByteArray) (i:Nat) (hi:i<l.length):boxes l (i+1)=boxes l i++[.obj 9 [.str (l.getD i (bs []))]]:=by
 unfold boxes
 rw [List.take_succ_eq_append_getElem hi,List.map_append,List.getD_eq_getElem?_getD,List.getElem?_eq_getElem hi];rfl
theorem set_last (S:List LV) (a b:LV):(S++[a]).set S.length b=S++[b]:=by simp
theorem get_last (S:List LV) (a:LV):(S++[a]).getD S.length .any=a:=by simp [List.getD_eq_getElem?_getD]
theorem prog_checkOutputs0 {k:Nat} (hk:Many k) (l:List ByteArray) (hs:∀w∈l,w.size≤140737488355328) (S:List LV):∃X,∀K:Int×Unit→List LV→Option R,G.Qal.fn0 k (l.map .str,()) S K=K (outsS l,()) (S++X):=by
 have hk':=hk
 unfold Many at hk'
 unfold G.Qal.fn0 outsS
 dsimp only
 rw [List.length_map,eq0_nat,show decide ((l.length:Int)>100)=decide (l.length>100) from gt_nat _ 100]
 cases decide (l.length=0) with
 |true=>exact ⟨[],fun K=>by rw [List.append_nil];rfl⟩
 |false =>
  cases hc:decide (l.length>100) with
  |true=>exact ⟨[],fun K=>by rw [List.append_nil];rfl⟩
  |false =>
   have hlen:l.length≤100:=by have:=of_decide_eq_false hc;omega
   simp only [ifB_false,prog_outs1 hk l hlen,cond_false]
   cases firstE (outS l) l.length with
   |some e=>exact ⟨[],fun K=>by rw [List.append_nil];rfl⟩
   |none =>
    have h:=fun (K:Int×Unit→List LV→Option R)=>rounds_scan (b:=G.Qal.b1 k (fun (_:Unit) S=>K (0,()) S) (fun (o:Int×Unit) S=>K (o.1,()) S)) (fun i=>(l.map LV.str,l.map LV.str,(l.length:Int),(i:Int),())) (fun i=>S++boxes l i) l.length (fun i=>cond (underS l (l.getD i (bs []))) (some (K (12,()) (S++boxes l (i+1)))) none) (K (0,()) (S++boxes l l.length)) (fun rec i hi=>?_) (fun rec=>?_) l.length 0 k (by omega) (by omega)
    ·have hs2:∀(d i:Nat),∃X,∀K:Int×Unit→List LV→Option R,scan (fun i=>cond (underS l (l.getD i (bs []))) (some (K (12,()) (S++boxes l (i+1)))) none) (K (0,()) (S++boxes l l.length)) d i=K (scan (fun i=>cond (underS l (l.getD i (bs []))) (some 12) none) 0 d i,()) (S++X):=fun d=>by
      induction d with
      |zero=>exact fun i=>⟨_,fun K=>rfl⟩
      |succ d ih =>
       intro i
       simp only [scan]
       cases underS l (l.getD i (bs [])) with
       |true=>exact ⟨_,fun K=>rfl⟩
       |false=>exact ih (i+1)
     obtain ⟨X,hX⟩:=hs2 l.length 0
     refine ⟨X,fun K=>?_⟩
     show rounds (G.Qal.b1 k _ _) k (l.map LV.str,l.map LV.str,(((l.map LV.str).length:Nat):Int),(0:Int),()) S=_
     rw [List.length_map]
     have h1:=h K
     have h0:S++boxes l 0=S:=by unfold boxes;simp
     rw [h0] at h1
     refine Eq.trans h1 (Eq.trans (hX K) ?_)
     rw [scan_first0 (bs []) (underS l)]
     rfl
    ·unfold G.Qal.b1
     dsimp only
     have hi2:i<(l.map LV.str).length:=by simpa using hi
     have hbox:(S++boxes l i++[LV.obj 9 [.str (bs [])]]).getD (S++boxes l i).length .any = .obj 9 [.str (bs [])]:=get_last _ _
     have hbox2:(S++boxes l i++[LV.obj 9 [.str (l.getD i (bs []))]]).getD (S++boxes l i).length .any = .obj 9 [.str (l.getD i (bs []))]:=get_last _ _
     have hst:∀K:List LV→Option R,stO [LV.str (bs [])] 0 [.str (l.getD i (bs []))] K=K [.str (l.getD i (bs []))]:=fun _=>rfl
     rw [lt_nat,ifB_pos hi,idxL_nat hi2,map_str_get l i hi,asLeaf_str]
     unfold newObj
     simp only [at_of hbox,hst,setS_of,set_last,prog_under hk l hlen hs _ _ _ hbox2,wrap_succ (show i<9223372036854775807 by omega)]
     rw [boxes_succ l i hi,List.append_assoc]
     cases underS l (l.getD i (bs []))<;>rfl
    ·unfold G.Qal.b1
     dsimp only
     rw [lt_nat,ifB_neg (Nat.lt_irrefl _)]
theorem prog_checkOutputs {k:Nat} (hk:Many k) (l:List ByteArray) (hs:∀w∈l,w.size≤140737488355328) (S:List LV) (K:Int×Unit→List LV→Option R):G.Qal.fn k (l.map .str,()) S K=K (outsS l,()) S:=by
 obtain ⟨X,h⟩:=prog_checkOutputs0 (R:=LV×List LV) hk l hs S
 exact popK_at (h _) rfl
structure Act where
 tool:ByteArray
 cmds:List (List ByteArray)
 vars:List AVar
 outs:List ByteArray
 needs:List AVar
 time:Int
def cmdL (c:List ByteArray):LV:=.sl 1 (c.map .str)
abbrev ActT:=ByteArray×List LV×List LV×List LV×List LV×Int×Unit
def Act.tup (a:Act):ActT:=(a.tool,a.cmds.map cmdL,a.vars.map varL,a.outs.map .str,a.needs.map varL,a.time,())
structure ActOk (a:Act):Prop where
 tool:a.tool.size≤140737488355328
 cmds:∀c∈a.cmds,∀w∈c,w.size≤140737488355328
 vars:∀x∈a.vars,x.1.size≤140737488355328
 outs:∀w∈a.outs,w.size≤140737488355328
 needs:∀x∈a.needs,x.1.size≤140737488355328
def cmdAt (l:List (List ByteArray)) (i:Nat):Option Int:=cond (cmdS (l.getD i [])==0) none (some (cmdS (l.getD i [])))
def actS (a:Act):Int:=cond (isDigestS a.tool) (cond (decide (a.cmds.length=0)) 9 (cond (decide (a.cmds.length>50)) 2 ((firstE (cmdAt a.cmds) a.cmds.length).getD
 (cond (varsS a.vars==0) (cond (outsS a.outs==0) (cond (varsS a.needs==0) (cond (decide (1≤a.time)&&decide (a.time≤100000)) 0 1) (varsS a.needs)) (outsS a.outs)) (varsS a.vars))))) 3
theorem cmd_get (l:List (List ByteArray)) (i:Nat) (h:i<l.length):(l.map cmdL).getD i .any=cmdL (l.getD i []):=by simp [List.getD_eq_getElem?_getD,h]
theorem cmdL_at (c:List ByteArray) (K:List LV→Option R):asSl 1 (leaf (cmdL c) 0) K=K (c.map .str):=asSl_sl 1 _ K
theorem ne0 (n:Int):(n != 0) = !(n==0):=rfl
theorem prog_CheckAction {k:Nat} (hk:Many k) (a:Act) (ok:ActOk a) (S:List LV) (K:Int×Unit→List LV→Option R):G.Qaa.fn k (a.tup,()) S K=K (actS a,()) S:=by
 have hk':=hk
 unfold Many at hk'
 unfold G.Qaa.fn actS Act.tup
 dsimp only
 rw [prog_IsDigest (k:=k)]
 dsimp only
 cases isDigestS a.tool with
 |false=>rfl
 |true =>
  rw [Bool.not_true,ifB_false,cond_true,List.length_map,eq0_nat,show decide ((a.cmds.length:Int)>50)=decide (a.cmds.length>50) from gt_nat _ 50]
  cases decide (a.cmds.length=0) with
  |true=>rfl
  |false =>
   cases hc:decide (a.cmds.length>50) with
   |true=>rfl
   |false =>
    have hlen:a.cmds.length≤50:=by have:=of_decide_eq_false hc;omega
    rw [ifB_false,ifB_false,cond_false,cond_false]
    refine Eq.trans (rounds_scan0 (fun i=>(a.tup,a.cmds.map cmdL,(a.cmds.length:Int),(i:Int),())) S a.cmds.length k (fun i=>(cmdAt a.cmds i).map fun e=>K (e,()) S) (K ((cond (varsS a.vars==0) (cond (outsS a.outs==0) (cond (varsS a.needs==0) (cond (decide (1≤a.time)&&decide (a.time≤100000)) 0 1) (varsS a.needs)) (outsS a.outs)) (varsS a.vars)),()) S) (fun rec i hi=>?_) (fun rec=>?_) (by omega)) ?_
    ·unfold G.Qaa.b0 Act.tup
     dsimp only
     have hi2:i<(a.cmds.map cmdL).length:=by simpa using hi
     rw [lt_nat,ifB_pos hi,idxL_nat hi2,cmd_get _ _ hi,cmdL_at,prog_checkCommand hk _ (ok.cmds _ (mem_get hi)),wrap_succ (by omega)]
     dsimp only
     unfold cmdAt
     rw [ne0]
     cases cmdS (a.cmds.getD i [])==0<;>rfl
    ·unfold G.Qaa.b0 Act.tup
     dsimp only
     rw [lt_nat,ifB_neg (Nat.lt_irrefl _)]
     simp only [prog_checkVars hk,prog_checkOutputs hk _ ok.outs,ne0]
     cases varsS a.vars==0 with
     |false=>rfl
     |true =>
      cases outsS a.outs==0 with
      |false=>rfl
      |true =>
       cases varsS a.needs==0 with
       |false=>rfl
       |true =>
        by_cases h1:1≤a.time
        ·by_cases h2:a.time≤100000
         ·simp only [h1,h2,show ¬ a.time<1 by omega,show ¬ a.time>100000 by omega,decide_true,decide_false];rfl
         ·simp only [h1,h2,show ¬ a.time<1 by omega,show a.time>100000 by omega,decide_true,decide_false];rfl
        ·simp only [h1,show a.time<1 by omega,decide_true,decide_false];rfl
    ·rw [scan_firstE]
     unfold firstE
     cases scan (fun j=>(cmdAt a.cmds j).map some) none a.cmds.length 0<;>rfl
end
end Go.Lm
set_option maxRecDepth 100000
namespace Go.Lm
section
variable {R:Type}
theorem cmp_lt:∀(a b:List UInt8),decide (Lib.compareBytes a b<0)=Op.bytesLess a b
 |[],[]=>rfl
 |[],_::_=>rfl
 |_::_,[]=>rfl
 |a::u,b::v=>by
  simp only [Lib.compareBytes,Op.bytesLess]
  by_cases h:a<b
  ·simp [h]
  ·by_cases h2:b<a
   ·have:a≠b:=fun e=>by subst e;exact absurd h2 (UInt8.lt_irrefl _)
    simp [h,h2,this]
   ·have:a=b:=UInt8.le_antisymm (UInt8.not_lt.1 h2) (UInt8.not_lt.1 h)
    simp only [h,h2,if_false,decide_false,Bool.false_or]
    rw [cmp_lt u v,this]
    simp
theorem cmp_eq:∀(a b:List UInt8),Lib.compareBytes a b=0 ↔ a=b
 |[],[]=>by simp [Lib.compareBytes]
 |[],_::_=>by simp [Lib.compareBytes]
 |_::_,[]=>by simp [Lib.compareBytes]
 |a::u,b::v=>by
  simp only [Lib.compareBytes]
  by_cases h:a<b
  ·have:a≠b:=fun e=>by subst e;exact absurd h (UInt8.lt_irrefl _)
   simp [h,this]
  ·by_cases h2:b<a
   ·have:a≠b:=fun e=>by subst e;exact absurd h2 (UInt8.lt_irrefl _)
    simp [h,h2,this]
   ·have:a=b:=UInt8.le_antisymm (UInt8.not_lt.1 h2) (UInt8.not_lt.1 h)
    rw [if_neg h,if_neg h2,cmp_eq u v,this]
    simp
theorem cmp_strLt (a b:ByteArray):decide (Lib.compareBytes a.data.toList b.data.toList<0)=strLt a b:=by rw [cmp_lt,strLt_less]
theorem cmp_strEq (a b:ByteArray):(Lib.compareBytes a.data.toList b.data.toList==0)=strEq a b:=by
 rw [Bool.eq_iff_iff,beq_iff_eq,cmp_eq,strEq_iff]
 exact ⟨ba_ext,fun e=>by rw [e]⟩
theorem mid_at (lo hi:Nat) (h:lo+hi<9223372036854775807):IntKind.wrap .i64 (shI .shr .u64 (IntKind.wrap .u64 (IntKind.wrap .i64 ((lo:Int)+(hi:Int)))) 1)=(((lo+hi) / 2:Nat):Int):=by
 rw [wrap_id (n:=(lo:Int)+hi) (by omega) (by omega),wrap_u64_id (by omega) (by omega)]
 have:shI .shr .u64 ((lo:Int)+hi) 1=(((lo+hi) / 2:Nat):Int):=by
  show Int.fdiv _ (2 ^ (min (1:Int).toNat 64))=_
  rw [show ((2:Int) ^ (min (1:Int).toNat 64))=2 from rfl,Int.fdiv_eq_ediv_of_nonneg _ (by omega)]
  omega
 rw [this,wrap_id (by omega) (by omega)]
theorem prog_search {k:Nat} (hk:Many k) {l:List File} (hl:Rising l) (hn:l.length≤140737488355328) (s:ByteArray) (S:List LV) (K:Int×Bool×Unit→List LV→Option R) :
  ∃c,(∀j,j<l.length→(l.getD j .zero).p=s→j=c)∧G.Qcm.fn k (l.map File.lv,s,(),()) S K=K ((c:Int),(decide (c<l.length)&&strEq (l.getD c .zero).p s),()) S:=by
 unfold Many at hk
 obtain ⟨c,h1,h2,h3,h4,huni⟩:=place hl s
 refine ⟨c,huni,?_⟩
 unfold G.Qcm.fn
 dsimp only
 rw [List.length_map]
 refine rounds_cut (fun lo hi=>(l.map File.lv,s,(),(l.length:Int),(lo:Int),(hi:Int),())) S l.length c (fun i=>strLt (l.getD i .zero).p s) (fun c=>K ((c:Int),(decide (c<l.length)&&strEq (l.getD c .zero).p s),()) S) h2 h3 h1 (fun rec lo hi hlt hle=>?_) (fun rec lo=>?_) l.length 0 l.length k (Nat.zero_le _) h1 (Nat.le_refl _) (by omega) (by omega)
 ·unfold G.Qcm.b0
  dsimp only
  rw [lt_nat,ifB_pos hlt,ifB_neg (by decide),mid_at lo hi (by omega),idxL_nat (by simp;omega),file_get _ _ (by omega),File.mat]
  show asStr (.str _) _=_
  rw [asStr_str]
  show asBool (.bool _) _=_
  rw [asBool_bool]
  show asSl 1 (File.leaf _) _=_
  rw [File.sl]
  show ifB (decide (Lib.compareBytes _ _<0)) _ _=_
  rw [cmp_strLt,wrap_succ (by omega)]
  cases strLt (l.getD ((lo+hi) / 2) .zero).p s<;>rfl
 ·unfold G.Qcm.b0
  dsimp only
  rw [lt_nat,ifB_neg (Nat.lt_irrefl _),lt_nat]
  cases hc:decide (lo<l.length) with
  |false=>simp
  |true =>
   have hlt:=of_decide_eq_true hc
   rw [ifB_true,idxL_nat (by simpa using hlt),file_get _ _ hlt,File.mat]
   show asStr (.str _) _=_
   rw [asStr_str]
   show asBool (.bool _) _=_
   rw [asBool_bool]
   show asSl 1 (File.leaf _) _=_
   rw [File.sl]
   show K (_,(Lib.compareBytes _ _==0),()) S=_
   rw [cmp_strEq,Bool.true_and]
def atS (l:List File) (p:ByteArray):Look:=scan (fun i=>match strEq (l.getD i .zero).p p with|true=>some ⟨p,digestS (l.getD i .zero).b,(l.getD i .zero).r⟩|false=>none) ⟨p,bs [],false⟩ l.length 0
def Look.tup (x:Look):(ByteArray×ByteArray×Bool×Unit)×Unit:=((x.p,x.d,x.r,()),())
theorem file_leaf1 (x:File) (K:Bool→Option R):asBool (leaf x.lv 1) K=K x.r:=rfl
theorem file_leaf2 (x:File) (K:List LV→Option R):asSl 1 (leaf x.lv 2) K=K (bytesL x.b):=by
 show asSl 1 x.leaf K=_
 exact x.sl K
theorem prog_lookAt {k:Nat} (hk:Many k) {l:List File} (hl:Rising l) (ok:FilesOk l) (s:ByteArray) (S:List LV) (K:(ByteArray×ByteArray×Bool×Unit)×Unit→List LV→Option R):G.Qax.fn k (l.map File.lv,s,()) S K=K (atS l s).tup S:=by
 unfold G.Qax.fn
 dsimp only
 obtain ⟨c,huni,h⟩:=prog_search hk hl ok.n s S (fun r1 S=>ifB (!r1.2.1) (K ((s,(bs []),false,()),()) S) (idxL (l.map File.lv) r1.1 fun v2=>asSl 1 (leaf v2 2) fun l3=>idxL (l.map File.lv) r1.1 fun v4=>asBool (leaf v4 1) fun b5=>G.Qbo.fn k (l3,()) S fun r6 S=>K ((s,r6.1,b5,()),()) S))
 rw [h]
 dsimp only
 cases hc:(decide (c<l.length)&&strEq (l.getD c .zero).p s) with
 |true =>
  rw [Bool.and_eq_true,decide_eq_true_eq] at hc
  obtain ⟨h1,h2⟩:=hc
  rw [Bool.not_true,ifB_false,idxL_nat (by simpa using h1),file_get _ _ h1,file_leaf2,idxL_nat (by simpa using h1),file_get _ _ h1,file_leaf1,prog_Digest hk _ (ok.b _ (file_mem l c h1))]
  have:atS l s=⟨s,digestS (l.getD c .zero).b,(l.getD c .zero).r⟩:=by
   unfold atS
   refine scan_some _ _ c _ (Nat.zero_le _) (by omega) (fun m _ hm=>?_) (by rw [h2])
   cases he:strEq (l.getD m .zero).p s with
   |true=>have:=huni m (by omega) ((strEq_iff _ _).1 he);omega
   |false=>rfl
  rw [this]
  rfl
 |false =>
  rw [Bool.not_false,ifB_true]
  have:atS l s=⟨s,bs [],false⟩:=by
   unfold atS
   refine scan_none _ _ (fun m _ hm=>?_)
   cases he:strEq (l.getD m .zero).p s with
   |true =>
    have hm':m<l.length:=by omega
    obtain rfl:=huni m hm' ((strEq_iff _ _).1 he)
    rw [he,decide_eq_true hm'] at hc
    cases hc
   |false=>rfl
  rw [this]
  rfl
end
end Go.Lm
set_option maxRecDepth 100000
namespace Go.Lm
section
variable {R:Type}
theorem checkFiles_rising {l:List File} (h:checkFilesS l=0):Rising l:=by
 unfold checkFilesS at h
 cases hd:decide (l.length>1000) with
 |true=>rw [hd] at h;cases h
 |false =>
  rw [hd] at h
  refine fileS_rising (fun i hi=>?_)
  refine Classical.byContradiction (fun hne=>?_)
  have key:∀(d i:Nat) (fin:Int),(∃j,i≤j∧j<i+d∧fileS l j≠none)→scan (fileS l) fin d i≠0:=by
   intro d
   induction d with
   |zero=>intro i fin ⟨j,h1,h2,_⟩;omega
   |succ d ih =>
    intro i fin ⟨j,h1,h2,h3⟩
    simp only [scan]
    cases hs:fileS l i with
    |some r =>
     unfold fileS at hs
     split at hs
     ·cases hs;show (3:Int)≠0;decide
     ·split at hs
      ·cases hs;show (2:Int)≠0;decide
      ·split at hs
       ·cases hs;show (8:Int)≠0;decide
       ·cases hs
    |none =>
     refine ih _ _ ⟨j,?_,by omega,h3⟩
     by_cases e:j=i
     ·subst e;exact absurd hs h3
     ·omega
  exact key l.length 0 _ ⟨i,Nat.zero_le _,by omega,hne⟩ h
theorem checkLooks_len {l:List Look} (h:checkLooksS l=0):l.length≤4000:=by
 unfold checkLooksS at h
 cases hd:decide (l.length>4000) with
 |true=>rw [hd] at h;cases h
 |false=>have:=of_decide_eq_false hd;omega
abbrev Look.zero:Look:=⟨bs [],bs [],false⟩
def looksAt (l:List Look) (files:List File):List Look:=l.map fun x=>atS files x.p
def looksOfS (l:List Look) (files:List File):List Look×Int:=match checkLooksS l==0 with
 |false=>([],checkLooksS l)
 |true=>match checkFilesS files==0 with
  |false=>([],checkFilesS files)
  |true=>(looksAt l files,0)
theorem looks_take (l:List Look) (files:List File) (i:Nat) (hi:i<l.length):((looksAt l files).take i).map Look.lv++[(atS files (l.getD i Look.zero).p).lv]=((looksAt l files).take (i+1)).map Look.lv:=by
 unfold looksAt
 rw [List.take_succ_eq_append_getElem (by simpa using hi),List.map_append]
 simp [List.getD_eq_getElem?_getD,hi]
theorem take_all (l:List Look) (files:List File):(looksAt l files).take l.length=looksAt l files:=by
 rw [List.take_of_length_le];unfold looksAt;simp
theorem app_one {b:Nat} {ys:List LV} {x:LV} {K:List LV→Option R} (h:(ys.length+1)*b≤140737488355328) (h2:ys.length+1≤9223372036854775807):app b ys [x] K=K (ys++[x]):=app_le h h2
theorem prog_LooksOf {k:Nat} (hk:Many k) (l:List Look) {files:List File} (ok:FilesOk files) (S:List LV) (K:List LV×Int×Unit→List LV→Option R) :
  G.Qad.fn k (l.map Look.lv,files.map File.lv,()) S K=K ((looksOfS l files).1.map Look.lv,(looksOfS l files).2,()) S:=by
 unfold G.Qad.fn looksOfS
 dsimp only
 rw [prog_CheckLooks hk]
 dsimp only
 have h0:∀n:Int,(n != 0) = !(n==0):=fun n=>rfl
 rw [h0]
 cases hc:checkLooksS l==0 with
 |false=>rw [Bool.not_false,ifB_true];rfl
 |true =>
  rw [Bool.not_true,ifB_false,prog_CheckFiles hk _ ok]
  dsimp only
  rw [h0]
  cases hf:checkFilesS files==0 with
  |false=>rw [Bool.not_false,ifB_true];rfl
  |true =>
   rw [Bool.not_true,ifB_false]
   have hl:=checkLooks_len (eq_of_beq hc)
   have hr:=checkFiles_rising (eq_of_beq hf)
   have hk':=hk
   unfold Many at hk'
   rw [List.length_map]
   refine (rounds_scan0 (fun i=>(files.map File.lv,((looksAt l files).take i).map Look.lv,l.map Look.lv,(l.length:Int),(i:Int),())) S l.length k (fun _=>none) (K ((looksAt l files).map Look.lv,0,()) S) (fun rec i hi=>?_) (fun rec=>?_) (by omega)).trans (scan_none _ _ (fun _ _ _=>rfl))
   ·unfold G.Qad.b0
    dsimp only
    rw [lt_nat,ifB_pos hi,idxL_nat (by simpa using hi),look_get _ _ hi,Look.mat]
    show asStr (.str _) _=_
    rw [asStr_str]
    show asStr (.str _) _=_
    rw [asStr_str]
    show asBool (.bool _) _=_
    rw [asBool_bool,prog_lookAt hk hr ok]
    have h1:(((looksAt l files).take i).map Look.lv).length≤4000:=by
     rw [List.length_map,List.length_take];omega
    rw [app_one (by omega) (by omega)]
    show rec (_,(((looksAt l files).take i).map Look.lv++[(atS files (l.getD i Look.zero).p).lv]),_) S=_
    rw [looks_take _ _ _ hi,wrap_succ (by omega)]
   ·unfold G.Qad.b0
    dsimp only
    rw [lt_nat,ifB_neg (Nat.lt_irrefl _),take_all]
theorem strOf_bytes (b:ByteArray) (K:ByteArray→Option R):strOf (bytesL b) K=K b:=by
 unfold strOf bytesL
 rw [strL_hex]
end
end Go.Lm
set_option maxRecDepth 100000
namespace Go.Lm
section
variable {R:Type}
theorem cloneL {n:Nat} {xs:List LV} (h:xs.length*n≤140737488355328) (h2:xs.length≤9223372036854775807):cloneF n (xs,())=some (xs,()):=by
 unfold cloneF
 rw [Nat.zero_add,decide_eq_true ⟨h,h2⟩]
theorem prog_awake {k:Nat} (hk:Many k) (S:List LV) (K:Bool×Unit→List LV→Option R):G.Qde.fn k () S K=K (true,()) S:=by
 unfold G.Qde.fn
 have h:=prog_LooksOf (R:=R) hk [⟨bs [97],bs [],false⟩] (files:=[⟨bs [97],false,bs [],true,fun _=>rfl⟩]) ⟨by decide,by decide,by decide⟩ S
 have e1:[LV.agg [.str (bs [97]),.str (bs []),.bool false]]=([⟨bs [97],bs [],false⟩]:List Look).map Look.lv:=rfl
 have e2:[LV.agg [.str (bs [97]),.bool false,.nilsl]]=([⟨bs [97],false,bs [],true,fun _=>rfl⟩]:List File).map File.lv:=rfl
 rw [e1,e2,h]
 dsimp only
 have h1:checkLooksS [⟨bs [97],bs [],false⟩]=0:=by decide +kernel
 have h2:checkFilesS [⟨bs [97],false,bs [],true,fun _=>rfl⟩]=0:=by decide +kernel
 have h3:strEq (atS [⟨bs [97],false,bs [],true,fun _=>rfl⟩] (bs [97])).d (bs [99,98,102,50,57,99,101,52,56,52,50,50,50,51,50,53])=true:=by decide +kernel
 have h4:looksOfS [⟨bs [97],bs [],false⟩] [⟨bs [97],false,bs [],true,fun _=>rfl⟩]=([atS [⟨bs [97],false,bs [],true,fun _=>rfl⟩] (bs [97])],0):=by
  unfold looksOfS
  rw [h1,h2]
  rfl
 rw [h4]
 generalize atS [⟨bs [97],false,bs [],true,fun _=>rfl⟩] (bs [97])=a at h3 ⊢
 dsimp only
 have e3:(((([a]:List Look).map Look.lv).length:Int)==1)=true:=rfl
 rw [beq_self_eq_true,ifB_true,e3,ifB_true]
 have e4:∀(K':LV→Option R),idxL (([a]:List Look).map Look.lv) (0:Int) K'=K' a.lv:=fun K'=>by
  rw [show (0:Int)=((0:Nat):Int) from rfl,idxL_nat (by simp)]
  rfl
 rw [e4]
 show asStr (.str _) _=_
 rw [asStr_str,h3]
end
end Go.Lm
set_option maxRecDepth 100000
namespace Go.Lm
section
variable {R:Type}
def bldC (id:Nat) (acc:Option ByteArray):List LV:=match acc with
 |none=>[.nilp,.nilsl]
 |some b=>[.ptr id 0,.own tyU8 1 (bytesL b)]
def accB (acc:Option ByteArray):ByteArray:=acc.getD (bs [])
abbrev bldS (S:List LV) (acc:Option ByteArray):List LV:=S++[.obj H.builderT (bldC S.length acc)]
theorem copyCheck_at (k:Nat) (S:List LV) (acc:Option ByteArray) (K:Unit→List LV→Option R) :
  H.copyCheck.fn k ((S.length,0),()) (bldS S acc) K=K () (S++[.obj H.builderT [.ptr S.length 0,(bldC S.length acc).getD 1 .any]]):=by
 unfold H.copyCheck.fn ccF
 have e:(bldS S acc).getD S.length .any = .obj H.builderT (bldC S.length acc):=by simp [List.getD_eq_getElem?_getD]
 rw [e]
 cases acc with
 |none =>
  unfold bldC
  dsimp only
  rw [setLast]
  rfl
 |some b =>
  unfold bldC
  dsimp only
  have e0:(Nat.beq H.builderT H.builderT&&Nat.beq 0 0&&Nat.beq ([LV.own tyU8 1 (bytesL b)]:List LV).length 1)=true:=rfl
  have:(Nat.beq S.length S.length&&Nat.beq 0 0)=true:=by simp
  rw [e0]
  dsimp only
  rw [this]
  rfl
theorem bytesL_app (a b:ByteArray):bytesL a++bytesL b=bytesL (a++b):=by
 unfold bytesL
 rw [←List.map_append]
 congr 1
theorem write_at (k:Nat) (S:List LV) (acc:Option ByteArray) (s:ByteArray) (hs:(accB acc).size+s.size≤140737488355328) (S':List LV) (hS':S'=S++[.obj H.builderT [.ptr S.length 0,(bldC S.length acc).getD 1 .any]]) (K:List LV→Option R) :
  (objAt S' S.length fun ty c2=>asOwn 5 1 (c2.getD (0+1) .any) fun l3=>setS (S'.set S.length (ty (c2.set (0+1) (.sl 1 l3)))) fun S2=>app 1 l3 (bytesL s) fun l4=>objAt S2 S.length fun ty c5=>stO c5 (0+1) [(.own 5 1 l4)] fun c6=>setS (S2.set S.length (ty c6)) fun S=>K S)=K (bldS S (some (accB acc++s))):=by
 subst hS'
 rw [objAt_at (T:=[])]
 have hown:∀(K':List LV→Option R),asOwn 5 1 (([.ptr S.length 0,(bldC S.length acc).getD 1 .any]:List LV).getD (0+1) .any) K'=K' (bytesL (accB acc)):=fun K'=>by
  cases acc with
  |none=>rfl
  |some b=>rfl
 rw [hown]
 unfold setS
 dsimp only
 rw [setLast,app_le (by rw [bytesL_len,bytesL_len];omega) (by rw [bytesL_len,bytesL_len];omega),bytesL_app,objAt_at (T:=[])]
 unfold stO
 have e:Nat.ble (0+1+([LV.own 5 1 (bytesL (accB acc++s))]:List LV).length) (([LV.ptr S.length 0,(bldC S.length acc).getD 1 .any]:List LV).set (0+1) (.sl 1 (bytesL (accB acc)))).length=true:=rfl
 rw [e,ifB_true]
 show K (List.set _ _ _)=_
 rw [setLast]
 rfl
theorem WriteString_at (k:Nat) (S:List LV) (acc:Option ByteArray) (s:ByteArray) (hs:(accB acc).size+s.size≤140737488355328) (K:Int×Unit×Unit→List LV→Option R) :
  G.Qdk.fn k ((S.length,0),s,()) (bldS S acc) K=K ((s.size:Int),(),()) (bldS S (some (accB acc++s))):=by
 unfold G.Qdk.fn
 dsimp only
 rw [copyCheck_at]
 exact write_at k S acc s hs _ rfl (fun S=>K ((s.size:Int),(),()) S)
theorem String_at (k:Nat) (S:List LV) (b:ByteArray) (h0:0<b.size) (K:ByteArray×Unit→List LV→Option R):H.bString.fn k ((S.length,0),()) (bldS S (some b)) K=K (b,()) (S++[.any]):=by
 unfold H.bString.fn bsF
 have e:(bldS S (some b)).getD S.length .any = .obj H.builderT (bldC S.length (some b)):=by simp [List.getD_eq_getElem?_getD]
 rw [e]
 unfold bldC
 dsimp only
 have e2:strB (bytesL b)=some b.data.toList:=strB_map _
 have e3:(bytesL b).isEmpty=false:=by
  have:=bytesL_len b
  cases h:bytesL b with
  |nil=>rw [h] at this;simp at this;omega
  |cons=>rfl
 rw [e2,e3,setLast]
 rfl
end
end Go.Lm
set_option maxRecDepth 100000
namespace Go.Lm
section
variable {R:Type}
structure WF where
 p:ByteArray
 r:Bool
 b:ByteArray
structure LkE where
 p:ByteArray
 d:ByteArray
 r:Bool
def WF.lv (f:WF):LV:=.agg [.str f.p,.bool f.r,.sl 1 (bytesL f.b)]
def LkE.lv (x:LkE):LV:=.agg [.str x.p,.str x.d,.bool x.r]
def filesM (l:List WF):List (LV×LV):=l.map fun f=>(.str f.p,f.lv)
def looksM (l:List LkE):List (LV×LV):=l.map fun x=>(.str x.p,x.lv)
structure Ids where
 i:Nat
 o:Nat
 l:Nat
 w:Nat
structure Wk where
 inp:List WF
 wr:List WF
 lk:List LkE
 told:ByteArray
 total:Int
def cellsW (a:Act) (I:Ids) (told:ByteArray) (total:Int):List LV :=
 [.str a.tool,.sl 1 (a.cmds.map cmdL),.sl 2 (a.vars.map varL),.sl 1 (a.outs.map .str),.sl 2 (a.needs.map varL),.int .i64 a.time,.map I.i,.map I.o,.map I.l,.str told,.int .i64 total]
structure WkAt (a:Act) (I:Ids) (S:List LV) (s:Wk):Prop where
 w:S.getD I.w .any = .obj 74 (cellsW a I s.told s.total)
 i:S.getD I.i .any = .mp .str (filesM s.inp)
 o:S.getD I.o .any = .mp .str (filesM s.wr)
 l:S.getD I.l .any = .mp .str (looksM s.lk)
 io:I.i≠I.o
 il:I.i≠I.l
 ol:I.o≠I.l
structure Grow (I:Ids) (S S':List LV):Prop where
 len:S.length≤S'.length
 old:∀id,id<S.length→id≠I.o→id≠I.l→id≠I.w→S'.getD id .any=S.getD id .any
theorem Grow.refl (I:Ids) (S:List LV):Grow I S S:=⟨Nat.le_refl _,fun _ _ _ _ _=>rfl⟩
theorem Grow.trans {I:Ids} {S S' S'':List LV} (h:Grow I S S') (h':Grow I S' S''):Grow I S S'' :=
 ⟨Nat.le_trans h.len h'.len,fun id h1 h2 h3 h4=>(h'.old id (Nat.lt_of_lt_of_le h1 h.len) h2 h3 h4).trans (h.old id h1 h2 h3 h4)⟩
theorem mp_at {S:List LV} {id:Nat} {m:List (LV×LV)} (h:S.getD id .any = .mp .str m) (K:List (LV×LV)→Option R):mpAt S id .str K=K m:=by
 unfold mpAt;rw [h];rfl
theorem WkAt.ne {a:Act} {I:Ids} {S:List LV} {s:Wk} (h:WkAt a I S s):I.w≠I.i∧I.w≠I.o∧I.w≠I.l:=by
 refine ⟨fun e=>?_,fun e=>?_,fun e=>?_⟩
 ·have:=h.w;rw [e,h.i] at this;cases this
 ·have:=h.w;rw [e,h.o] at this;cases this
 ·have:=h.w;rw [e,h.l] at this;cases this
def getF (l:List WF) (p:ByteArray):Option WF:=l.find? fun f=>decide (f.p=p)
def hasL (l:List LkE) (p:ByteArray):Bool:=l.any fun x=>decide (x.p=p)
theorem filesM_get (l:List WF) (p:ByteArray):mapGet (filesM l) (.str p)=(getF l p).map WF.lv:=by
 induction l with
 |nil=>rfl
 |cons f l ih =>
  show (match decide (f.p=p) with|true=>some f.lv|false=>mapGet (filesM l) (.str p))=_
  unfold getF
  rw [List.find?_cons]
  cases h:decide (f.p=p) with
  |true=>rfl
  |false=>exact ih
theorem looksM_get (l:List LkE) (p:ByteArray):(mapGet (looksM l) (.str p)).isSome=hasL l p∧∃(d:ByteArray×ByteArray) (r:Bool),(mapGet (looksM l) (.str p)).getD (.agg [.str (bs []),.str (bs []),.bool false]) = .agg [.str d.1,.str d.2,.bool r]:=by
 induction l with
 |nil=>exact ⟨rfl,(bs [],bs []),false,rfl⟩
 |cons x l ih =>
  have e:mapGet (looksM (x::l)) (.str p)=(match decide (x.p=p) with|true=>some x.lv|false=>mapGet (looksM l) (.str p)):=rfl
  rw [e]
  unfold hasL
  rw [List.any_cons]
  cases h:decide (x.p=p) with
  |true=>exact ⟨rfl,(x.p,x.d),x.r,rfl⟩
  |false=>exact ⟨by rw [Bool.false_or];exact ih.1,ih.2⟩
def lookOf (inp:List WF) (p:ByteArray):LkE:=match getF inp p with
 |some f=>⟨p,digestS f.b,f.r⟩
 |none=>⟨p,bs [],false⟩
def addL (s:Wk) (p:ByteArray):Wk:=cond (hasL s.lk p) s { s with lk:=s.lk++[lookOf s.inp p] }
def findS (s:Wk) (p:ByteArray):Option WF×Wk:=match getF s.wr p with
 |some f=>(some f,s)
 |none=>(getF s.inp p,addL s p)
abbrev FT:=ByteArray×Bool×List LV×Unit
def fileT:Option WF→FT
 |some f=>(f.p,f.r,bytesL f.b,())
 |none=>(bs [],false,[],())
theorem file_cells (x:Option WF) (K:ByteArray→Bool→List LV→Option R) :
  (mat 3 ((x.map WF.lv).getD (.agg [.str (bs []),.bool false,.nilsl])) fun c=>asStr (c.getD 0 .any) fun s=>asBool (c.getD 1 .any) fun b=>asSl 1 (c.getD 2 .any) fun l=>K s b l)=K (fileT x).1 (fileT x).2.1 (fileT x).2.2.1:=by
 cases x with
 |none=>rfl
 |some f=>rfl
theorem look_cells {x:LV} {d:ByteArray×ByteArray} {r:Bool} (h:x = .agg [.str d.1,.str d.2,.bool r]) (K:Option R) :
  (mat 3 x fun c=>asStr (c.getD 0 .any) fun _=>asStr (c.getD 1 .any) fun _=>asBool (c.getD 2 .any) fun _=>K)=K:=by
 subst h;rfl
theorem looksM_put {l:List LkE} {p:ByteArray} (h:hasL l p=false) (x:LV):mapPut (looksM l) (.str p) x=looksM l++[(.str p,x)]:=by
 refine mapPut_new ?_
 have:=(looksM_get l p).1
 rw [h] at this
 cases hm:mapGet (looksM l) (.str p) with
 |none=>rfl
 |some z=>rw [hm] at this;cases this
theorem getF_p {l:List WF} {p:ByteArray} {f:WF} (h:getF l p=some f):f.p=p:=by
 have:=List.find?_some h
 exact of_decide_eq_true this
theorem getD_app {S:List LV} {id:Nat} {v:LV} (h:S.getD id .any=v) (hv:v≠.any) (T:List LV):(S++T).getD id .any=v:=by
 rw [getD_app_lt _ _ _ _ (getD_lt h hv)];exact h
theorem find_at {k:Nat} (hk:Many k) {a:Act} {I:Ids} {S:List LV} {s:Wk} (h:WkAt a I S s) (hs:∀f∈s.inp,f.b.size≤140737488355328) (p:ByteArray) :
  ∃S',WkAt a I S' (findS s p).2∧Grow I S S'∧∀{R:Type} (K:FT×Bool×Unit→List LV→Option R),G.Qbc.fn k ((I.w,0),p,()) S K=K (fileT (findS s p).1,(findS s p).1.isSome,()) S':=by
 have l7:∀{R:Type} (told:ByteArray) (total:Int) (K:LV→Option R),ldRaw (cellsW a I told total) (0+7) K=K (.map I.o):=fun _ _ _=>rfl
 have l6:∀{R:Type} (told:ByteArray) (total:Int) (K:LV→Option R),ldRaw (cellsW a I told total) (0+6) K=K (.map I.i):=fun _ _ _=>rfl
 have l8:∀{R:Type} (told:ByteArray) (total:Int) (K:LV→Option R),ldRaw (cellsW a I told total) (0+8) K=K (.map I.l):=fun _ _ _=>rfl
 have st3:∀{R:Type} (x y z u v w:LV) (K:List LV→Option R),stO [x,y,z] 0 [u,v,w] K=K [u,v,w]:=fun _ _ _ _ _ _ _=>rfl
 have st1:∀{R:Type} (x y z u:LV) (K:List LV→Option R),stO [x,y,z] (0+1) [u] K=K [x,u,z]:=fun _ _ _ _ _=>rfl
 have st2:∀{R:Type} (x y z u:LV) (K:List LV→Option R),stO [x,y,z] (0+2) [u] K=K [x,y,u]:=fun _ _ _ _ _=>rfl
 have am:∀{R:Type} (i:Nat) (K:Nat→Option R),asMap (.map i) K=K i:=fun _ _=>rfl
 have one:∀{R:Type} (K:FT×Bool×Unit→List LV→Option R),G.Qbc.fn k ((I.w,0),p,()) S K =
   ifB ((getF s.wr p).map WF.lv).isSome (K (fileT (getF s.wr p),true,()) S) (G.Qbc.q0 k K ((I.w,0),p,((bs []),false,[],()),fileT (getF s.inp p),((getF s.inp p).map WF.lv).isSome,()) S):=fun {R} K=>by
  unfold G.Qbc.fn
  dsimp only
  rw [at_of h.w,l7,am,mp_at h.o,filesM_get]
  refine (file_cells _ _).trans ?_
  congr 1
  rw [at_of h.w,l6,am,mp_at h.i,filesM_get]
  exact file_cells _ _
 unfold findS
 cases hw:getF s.wr p with
 |some f =>
  refine ⟨S,h,Grow.refl _ _,fun {R} K=>?_⟩
  rw [one,hw];rfl
 |none =>
  obtain ⟨hl1,d,r,hl2⟩:=looksM_get s.lk p
  have two:∀{R:Type} (K:FT×Bool×Unit→List LV→Option R),G.Qbc.fn k ((I.w,0),p,()) S K =
    G.Qbc.q2 k (fun o S=>G.Qbc.q6 k K o S) ((I.w,0),p,((bs []),false,[],()),fileT (getF s.inp p),((getF s.inp p).map WF.lv).isSome,!(hasL s.lk p),()) S:=fun {R} K=>by
   rw [one,hw]
   show G.Qbc.q0 k K _ S=_
   unfold G.Qbc.q0
   dsimp only
   rw [at_of h.w,l8,am,mp_at h.l,hl1]
   refine (look_cells hl2 _).trans ?_
   rfl
  have his:((getF s.inp p).map WF.lv).isSome=(getF s.inp p).isSome:=by cases getF s.inp p<;>rfl
  unfold addL
  cases hh:hasL s.lk p with
  |true =>
   refine ⟨S,h,Grow.refl _ _,fun {R} K=>?_⟩
   rw [two,hh,his];rfl
  |false =>
   have hne:=h.ne
   have hwl:=getD_lt h.w (by simp)
   have hll:=getD_lt h.l (by simp)
   let L:=lookOf s.inp p
   have fin:∀{R:Type} (d:ByteArray) (r:Bool) (K:FT×Bool×Unit→List LV→Option R) (x3 x4:FT) (b:Bool),G.Qbc.q5 k (fun o S=>G.Qbc.q6 k K o S) ((I.w,0),p,x3,x4,b,(S.length,0),()) (S++[LV.obj 38 [.str p,.str d,.bool r]]) =
     K (x4,b,()) ((S++[LV.obj 38 [.str p,.str d,.bool r]]).set I.l (LV.mp .str (looksM (s.lk++[LkE.mk p d r])))):=fun {R} d r K x3 x4 b=>by
    unfold G.Qbc.q5
    dsimp only
    rw [at_of (getD_app h.w (by simp) _),l8,am,objAt_at]
    show mpAt _ I.l .str _=_
    rw [mp_at (getD_app h.l (by simp) _),looksM_put hh]
    have e:looksM s.lk++[(LV.str p,LV.agg [.str p,.str d,.bool r])]=looksM (s.lk++[LkE.mk p d r]):=by unfold looksM;rw [List.map_append];rfl
    show setS _ _=_
    rw [setS_of]
    show G.Qbc.q6 k K _ _=_
    unfold G.Qbc.q6
    rw [←e]
   have three:∀{R:Type} (K:FT×Bool×Unit→List LV→Option R),G.Qbc.fn k ((I.w,0),p,()) S K=K (fileT (getF s.inp p),(getF s.inp p).isSome,()) ((S++[LV.obj 38 [.str p,.str L.d,.bool L.r]]).set I.l (LV.mp .str (looksM (s.lk++[L])))):=fun {R} K=>by
    rw [two,hh,his]
    unfold G.Qbc.q2
    dsimp only
    rw [Bool.not_false,ifB_true]
    unfold newObj
    dsimp only
    rw [objAt_at,st3,setS_of,setLast]
    unfold G.Qbc.q3 G.Qbc.q4
    dsimp only
    cases hi:getF s.inp p with
    |none =>
     have hL:L=⟨p,bs [],false⟩:=by show lookOf s.inp p=_;unfold lookOf;rw [hi]
     rw [hL]
     exact fin (bs []) false K _ _ _
    |some f =>
     have hL:L=⟨p,digestS f.b,f.r⟩:=by show lookOf s.inp p=_;unfold lookOf;rw [hi]
     rw [hL]
     show G.Qbo.fn k (bytesL f.b,()) _ _=_
     rw [prog_Digest hk f.b (hs f (List.mem_of_find?_eq_some hi)),objAt_at,st1,setS_of,setLast,objAt_at,st2,setS_of,setLast]
     exact fin (digestS f.b) f.r K _ _ _
   have hlp:L=⟨p,L.d,L.r⟩:=by show lookOf s.inp p=_;simp only [L];unfold lookOf;cases getF s.inp p<;>rfl
   refine ⟨_,⟨?_,?_,?_,?_,h.io,h.il,h.ol⟩,⟨by simp,fun id h1 h2 h3 h4=>?_⟩,three⟩
   ·rw [getD_set_other _ _ hne.2.2];exact getD_app h.w (by simp) _
   ·rw [getD_set_other _ _ h.il];exact getD_app h.i (by simp) _
   ·rw [getD_set_other _ _ h.ol];exact getD_app h.o (by simp) _
   ·rw [getD_set_self _ _ _ (by simp;omega)];rfl
   ·rw [getD_set_other _ _ h3,getD_app_lt _ _ _ _ h1]
end
end Go.Lm
set_option maxRecDepth 100000
namespace Go.Lm
section
variable {R:Type}
theorem joinL_snoc (c:UInt8) (x:Bs):∀(l:List Bs),l≠[]→joinL c (l++[x])=joinL c l++c::x
 |[],h=>absurd rfl h
 |[w],_=>rfl
 |w::v::l,_=>by
  have ih:=joinL_snoc c x (v::l) (by simp)
  rw [List.cons_append,joinL_cons c w (by simp),ih,joinL_cons c w (by simp)]
  simp
def joinS (ws:List ByteArray):ByteArray:=ofL (joinL 32 (ws.map toL))
def accJ (w:ByteArray) (l:List ByteArray):Nat→ByteArray
 |0=>w
 |i+1=>(accJ w l i++bs [32])++l.getD i (bs [])
theorem accJ_L (w:ByteArray) (l:List ByteArray):∀i,i≤l.length→toL (accJ w l i)=joinL 32 ((w::l.take i).map toL)
 |0,_=>by
  simp only [List.take_zero];rfl
 |i+1,h=>by
  have ih:=accJ_L w l i (by omega)
  unfold accJ
  have e2:(w::(l.take i++[l[i]'(by omega)])).map toL=(w::l.take i).map toL++[toL (l[i]'(by omega))]:=by
   rw [←List.cons_append,List.map_append];rfl
  rw [toL_app,toL_app,ih,List.take_succ_eq_append_getElem (by omega),e2,joinL_snoc 32 _ _ (by simp),List.getD_eq_getElem?_getD,List.getElem?_eq_getElem (by omega)]
  show _++[32]++_=_
  rw [List.append_assoc];rfl
theorem accJ_all (w:ByteArray) (l:List ByteArray):accJ w l l.length=joinS (w::l):=by
 apply toL_inj
 rw [accJ_L w l _ (Nat.le_refl _),List.take_of_length_le (Nat.le_refl _)]
 rfl
theorem accJ_size (w:ByteArray) (l:List ByteArray) (hw:w.size≤100000) (hl:∀x∈l,x.size≤100000):∀i,i≤l.length→(accJ w l i).size≤100000+i*100001
 |0,_=>by unfold accJ;omega
 |i+1,h=>by
  have ih:=accJ_size w l hw hl i (by omega)
  have:=get_size hl i (by omega)
  have e:(bs [32]).size=1:=rfl
  unfold accJ
  rw [ByteArray.size_append,ByteArray.size_append,e]
  omega
theorem accJ_pos (w:ByteArray) (l:List ByteArray):∀i,0<i→0<(accJ w l i).size
 |0,h=>by omega
 |i+1,_=>by
  have e:(bs [32]).size=1:=rfl
  unfold accJ
  rw [ByteArray.size_append,ByteArray.size_append,e]
  omega
def sumW (ws:List ByteArray):Nat→Nat
 |0=>0
 |i+1=>sumW ws i+(ws.getD i (bs [])).size
theorem sumW_le (ws:List ByteArray) (hs:∀x∈ws,x.size≤100000):∀i,i≤ws.length→sumW ws i≤i*100000
 |0,_=>Nat.zero_le _
 |i+1,h=>by
  have ih:=sumW_le ws hs i (by omega)
  have:=get_size hs i (by omega)
  unfold sumW
  omega
theorem Grow_at (k:Nat) (S:List LV) (n:Int) (h0:0<n) (h1:n≤140737488355328) (K:Unit→List LV→Option R):H.Grow.fn k ((S.length,0),n,()) (bldS S none) K=K () (bldS S (some (bs []))):=by
 unfold H.Grow.fn growF
 have e:(bldS S none).getD S.length .any = .obj H.builderT [.nilp,.nilsl]:=by
  show (S++[_]).getD S.length .any=_
  rw [get_last];rfl
 dsimp only
 rw [e]
 dsimp only
 rw [show (Nat.beq H.builderT H.builderT&&(Nat.beq 0 0&&decide (0<n∧n≤140737488355328)))=true by rw [decide_eq_true ⟨h0,h1⟩];rfl]
 dsimp only
 show K () ((S++[_]).set S.length _)=_
 rw [set_last]
 rfl
theorem bs_nil_app (w:ByteArray):bs []++w=w:=toL_inj (by rw [toL_app];rfl)
theorem joinS_one (w:ByteArray):joinS [w]=w:=by
 unfold joinS
 show ofL (toL w)=w
 rw [ofL_toL]
theorem Join_two {k:Nat} (hk:Many k) (w v:ByteArray) (l:List ByteArray) (hl:(w::v::l).length≤1000) (hs:∀x∈w::v::l,x.size≤100000) (S:List LV) (K:ByteArray×Unit→List LV→Option R) :
  G.Qds.fn0 k ((w::v::l).map .str,bs [32],()) S K=K (joinS (w::v::l),()) (S++[.any]):=by
 have hk':=hk
 unfold Many at hk'
 have hws:(w::v::l).length=l.length+2:=rfl
 unfold G.Qds.fn0 G.Qds.q0 G.Qds.q1
 dsimp only
 have hlen:(((w::v::l).map LV.str).length:Int)=((l.length+2:Nat):Int):=by rw [List.length_map,hws]
 have e1:((bs [32]).size:Int)=1:=rfl
 have hsub:IntKind.wrap .i64 (((l.length+2:Nat):Int)-1)=((l.length+1:Nat):Int):=by rw [wrap_id (by omega) (by omega)];omega
 rw [hlen,e1,show (((l.length+2:Nat):Int)==0)=false by rw [beq_eq_false_iff_ne];omega,show (((l.length+2:Nat):Int)==1)=false by rw [beq_eq_false_iff_ne];omega,hsub]
 have hdiv:Int.tdiv 9223372036854775807 ((l.length+1:Nat):Int)=((9223372036854775807 / (l.length+1):Nat):Int):=rfl
 have hd1:9223372036854775807 / 1001≤9223372036854775807 / (l.length+1):=Nat.div_le_div_left (by omega) (by omega)
 have hd2:9223372036854775807 / (l.length+1)≤9223372036854775807:=Nat.div_le_self _ _
 have hq:2≤9223372036854775807 / (l.length+1):=by omega
 rw [hdiv,ifB_false,ifB_false,ifB_pos (show (1:Int)>0 by decide),ifB_neg (show ¬ ((l.length+1:Nat):Int)=0 by omega),wrap_id (n:=((9223372036854775807 / (l.length+1):Nat):Int)) (by omega) (by omega),ifB_neg (show ¬ (1:Int)≥((9223372036854775807 / (l.length+1):Nat):Int) by omega)]
 have hn0:IntKind.wrap .i64 (0+IntKind.wrap .i64 (1*((l.length+1:Nat):Int)))=((l.length+1+sumW (w::v::l) 0:Nat):Int):=by
  rw [wrap_id (n:=1*_) (by omega) (by omega),wrap_id (by omega) (by omega)]
  unfold sumW
  omega
 rw [hn0]
 refine Eq.trans (rounds_scan0 (fun i=>((w::v::l).map LV.str,bs [32],((l.length+1+sumW (w::v::l) i:Nat):Int),(w::v::l).map LV.str,((l.length+2:Nat):Int),(i:Int),())) S (l.length+2) k (fun _=>none) (K (joinS (w::v::l),()) (S++[.any])) (fun rec i hi=>?_) (fun rec=>?_) (by simp only [hws] at hl;omega)) ?_
 ·unfold G.Qds.b0 G.Qds.q2 G.Qds.q3 G.Qds.q4 G.Qds.q5
  dsimp only
  have hi2:i<((w::v::l).map LV.str).length:=by rw [List.length_map];exact hi
  have h1:=sumW_le (w::v::l) hs i (by rw [hws];omega)
  have h2:=get_size hs i (by rw [hws];exact hi)
  rw [lt_nat,ifB_pos hi,idxL_nat hi2,map_str_get _ i (by rw [hws];exact hi),asLeaf_str]
  rw [wrap_id (n:=9223372036854775807-_) (by omega) (by omega),ifB_neg (by omega),wrap_succ (by omega),wrap_id (by omega) (by omega)]
  have e3:((l.length+1+sumW (w::v::l) i:Nat):Int)+(((w::v::l).getD i (bs [])).size:Int)=((l.length+1+sumW (w::v::l) (i+1):Nat):Int):=by
   show _=((l.length+1+(sumW (w::v::l) i+((w::v::l).getD i (bs [])).size):Nat):Int)
   omega
  rw [e3]
 ·unfold G.Qds.b0 G.Qds.q2 G.Qds.q6 G.Qds.q7 G.Qds.q8 G.Qds.q9 G.Qds.q10
  dsimp only
  rw [lt_nat,ifB_neg (Nat.lt_irrefl _)]
  have h1:=sumW_le (w::v::l) hs (l.length+2) (by rw [hws];omega)
  unfold newObj
  show H.Grow.fn k ((S.length,0),_,()) (bldS S none) _=_
  rw [Grow_at k S _ (by omega) (by simp only [hws] at hl;omega),idx_str0,asLeaf_str,WriteString_at k S _ w (by have:=hs w (by simp);show (bs []).size+_≤_;have e:(bs []).size=0:=rfl;omega)]
  rw [show accB (some (bs []))++w=w from bs_nil_app w,tail_at,List.length_map]
  have hsl:∀x∈v::l,x.size≤100000:=fun x hx=>hs x (by simp only [List.mem_cons] at hx ⊢;exact .inr hx)
  have hw:=hs w (by simp)
  have hvl:(v::l).length=l.length+1:=rfl
  refine Eq.trans (rounds_scan (fun i=>(bs [32],(S.length,0),(v::l).map LV.str,((v::l).length:Int),(i:Int),())) (fun i=>bldS S (some (accJ w (v::l) i))) (v::l).length (fun _=>none) (K (joinS (w::v::l),()) (S++[.any])) (fun rec i hi=>?_) (fun rec=>?_) (v::l).length 0 k (by omega) (by rw [hvl];simp only [hws] at hl;omega)) ?_
  ·unfold G.Qds.b1 G.Qds.q11 G.Qds.q12 G.Qds.q13
   dsimp only
   have hi2:i<((v::l).map LV.str).length:=by rw [List.length_map];exact hi
   have h3:=accJ_size w (v::l) hw hsl i (by omega)
   have h4:=get_size hsl i hi
   have e4:(bs [32]).size=1:=rfl
   have h5:i*100001≤1000*100001:=Nat.mul_le_mul_right _ (by simp only [hws] at hl;rw [hvl] at hi;omega)
   rw [lt_nat,ifB_pos hi,idxL_nat hi2,map_str_get _ i hi,asLeaf_str,WriteString_at k S _ _ (by show (accJ w (v::l) i).size+_≤_;omega)]
   rw [WriteString_at k S _ _ (by show ((accJ w (v::l) i)++bs [32]).size+_≤_;rw [ByteArray.size_append];omega),wrap_succ (by rw [hvl] at hi;omega)]
   rfl
  ·unfold G.Qds.b1 G.Qds.q11
   dsimp only
   rw [lt_nat,ifB_neg (Nat.lt_irrefl _),String_at k S _ (accJ_pos _ _ _ (by rw [hvl];omega)),accJ_all]
  ·exact scan_none _ _ (fun _ _ _=>rfl)
 ·exact scan_none _ _ (fun _ _ _=>rfl)
theorem Join_at0 {k:Nat} (hk:Many k) (ws:List ByteArray) (hl:ws.length≤1000) (hs:∀x∈ws,x.size≤100000) (S:List LV):∃X,∀K:ByteArray×Unit→List LV→Option R,G.Qds.fn0 k (ws.map .str,bs [32],()) S K=K (joinS ws,()) (S++X):=by
 match ws,hl,hs with
 |[],_,_=>exact ⟨[],fun K=>by rw [List.append_nil];rfl⟩
 |[w],_,_=>exact ⟨[],fun K=>by rw [List.append_nil,joinS_one];rfl⟩
 |w::v::l,hl,hs=>exact ⟨[.any],fun K=>Join_two hk w v l hl hs S K⟩
theorem Join_at {k:Nat} (hk:Many k) (ws:List ByteArray) (hl:ws.length≤1000) (hs:∀x∈ws,x.size≤100000) (S:List LV) (K:ByteArray×Unit→List LV→Option R):G.Qds.fn k (ws.map .str,bs [32],()) S K=K (joinS ws,()) S:=by
 obtain ⟨X,h⟩:=Join_at0 (R:=LV×List LV) hk ws hl hs S
 exact popK_at (h _) rfl
end
end Go.Lm
set_option maxRecDepth 100000
namespace Go.Lm
section
variable {R:Type}
def itoaS (n:Int):ByteArray:=⟨(Lib.itoa n).toArray⟩
abbrev HasPow (S:List LV):Prop:=HasGlob S H.powG H.powA
theorem Itoa_at (k:Nat) {S:List LV} (h:HasPow S) (n:Int) (h0:-9223372036854775808≤n) (h1:n≤9223372036854775807) (K:ByteArray×Unit→List LV→Option R):H.Itoa.fn k (n,()) S K=K (itoaS n,()) S:=by
 unfold H.Itoa.fn itoaF
 have hok:H.ItoaOk S n:=⟨h,h0,h1⟩
 rw [show (Classical.propDecidable (H.ItoaOk S (n,()).1)).decide=true from @decide_eq_true _ (Classical.propDecidable _) hok]
 rfl
end
end Go.Lm
set_option maxRecDepth 100000
namespace Go.Lm
theorem joinS_size:∀(ws:List ByteArray) (m:Nat),(∀w∈ws,w.size≤m)→(joinS ws).size≤ws.length*(m+1)
 |[],_,_=>by unfold joinS;rw [ofL_size];exact Nat.zero_le _
 |[w],m,h=>by
  have:=h w (by simp)
  rw [joinS_one]
  simp only [List.length_cons,List.length_nil];omega
 |w::v::l,m,h=>by
  have ih:=joinS_size (v::l) m (fun x hx=>h x (by simp only [List.mem_cons] at hx ⊢;exact .inr hx))
  have hw:=h w (by simp)
  unfold joinS at ih ⊢
  rw [ofL_size] at ih ⊢
  rw [List.map_cons,joinL_cons 32 _ (by simp),List.length_append,List.length_cons,toL_len]
  rw [List.length_cons (a:=w),Nat.succ_mul]
  omega
end Go.Lm
set_option maxRecDepth 100000
namespace Go.Lm
theorem itoa_len (n:Int) (h0:-9223372036854775808≤n) (h1:n≤9223372036854775807):(itoaS n).size≤21:=by
 have:=Lib.itoa_length_le n h0 h1
 unfold itoaS
 simpa [ByteArray.size] using this
end Go.Lm
set_option maxRecDepth 100000
namespace Go.Lm
section
variable {R:Type}
theorem cat_le {a b:ByteArray} (h:a.size+b.size≤9223372036854775807) (K:ByteArray→Option R):catStr a b K=K (a++b):=by
 unfold catStr
 rw [ifB_pos h]
theorem cloneL5 {n:Nat} {xs:List LV} (h:xs.length*n≤140737488351232) (hn:1≤n):cloneF n (xs,())=some (xs,()):=by
 have:=Nat.mul_le_mul_left xs.length hn
 exact cloneL (by omega) (by omega)
theorem clone_str (k:Nat) (l:List LV) (h:l.length*16≤140737488351232) (S:List LV) (K:List LV×Unit→List LV→Option R):G.Qcr.fn k (l,()) S K=K (l,()) S:=by
 unfold G.Qcr.fn handF
 rw [cloneL5 h (by decide)]
end
end Go.Lm
set_option maxRecDepth 100000
namespace Go.Lm
section
variable {R:Type}
theorem findS_keep (s:Wk) (p:ByteArray):(findS s p).2.inp=s.inp∧(findS s p).2.wr=s.wr∧(findS s p).2.told=s.told∧(findS s p).2.total=s.total:=by
 unfold findS
 split
 ·exact ⟨rfl,rfl,rfl,rfl⟩
 ·unfold addL
  cases hasL s.lk p<;>exact ⟨rfl,rfl,rfl,rfl⟩
structure WkOk (s:Wk):Prop where
 inp:∀f∈s.inp,f.b.size≤100000
 wr:∀f∈s.wr,f.b.size≤100000
theorem WkOk.big {s:Wk} (h:WkOk s):∀f∈s.inp,f.b.size≤140737488355328:=fun f hf=>by have:=h.inp f hf;omega
theorem WkOk.find {s:Wk} (h:WkOk s) (p:ByteArray):WkOk (findS s p).2:=by
 obtain ⟨h1,h2,_,_⟩:=findS_keep s p
 exact ⟨by rw [h1];exact h.inp,by rw [h2];exact h.wr⟩
theorem WkOk.found {s:Wk} (h:WkOk s) {p:ByteArray} {f:WF} (hf:(findS s p).1=some f):f.b.size≤100000:=by
 unfold findS at hf
 split at hf
 ·rename_i g hg
  cases hf
  exact h.wr _ (List.mem_of_find?_eq_some hg)
 ·exact h.inp _ (List.mem_of_find?_eq_some hf)
abbrev OT:=List LV×Int×Unit
def outT (c:Int):Option ByteArray→OT
 |some b=>(bytesL b,0,())
 |none=>([],c,())
def readS (s:Wk) (p:ByteArray):Option ByteArray×Wk:=((findS s p).1.map WF.b,(findS s p).2)
theorem read_at {k:Nat} (hk:Many k) {a:Act} {I:Ids} {S:List LV} {s:Wk} (h:WkAt a I S s) (hs:WkOk s) (p:ByteArray) :
  ∃S',WkAt a I S' (readS s p).2∧Grow I S S'∧∀{R:Type} (K:OT→List LV→Option R),G.Qbh.fn k ((I.w,0),p,()) S K=K (outT 2 (readS s p).1) S':=by
 obtain ⟨S',h1,h2,h3⟩:=find_at hk h hs.big p
 refine ⟨S',h1,h2,fun {R} K=>?_⟩
 unfold G.Qbh.fn
 rw [h3]
 dsimp only
 unfold readS
 cases (findS s p).1 with
 |none=>rfl
 |some f=>rfl
def pickS:List ByteArray→Wk→Option ByteArray×Wk
 |[],s=>(none,s)
 |p::ps,s=>match (findS s p).1 with
  |some f=>(some f.b,(findS s p).2)
  |none=>pickS ps (findS s p).2
theorem drop_cons' {l:List ByteArray} {i:Nat} (h:i<l.length):l.drop i=l.getD i (bs [])::l.drop (i+1):=by
 rw [List.drop_eq_getElem_cons h];congr 1;simp [List.getD_eq_getElem?_getD,h]
theorem pick_loop {k:Nat} (hk:Many k) {a:Act} {I:Ids} (l:List ByteArray) (hl:l.length≤1000):∀(d i n:Nat) {S:List LV} {s:Wk},WkAt a I S s→WkOk s→l.length=i+d→d<n →
  ∃S',WkAt a I S' (pickS (l.drop i) s).2∧WkOk (pickS (l.drop i) s).2∧Grow I S S'∧∀{R:Type} (J0:Unit→List LV→Option R) (Jret:OT→List LV→Option R),
   rounds (G.Qbg.b0 k J0 Jret) n ((I.w,0),l.map .str,(l.length:Int),(i:Int),()) S=match (pickS (l.drop i) s).1 with|some b=>Jret (bytesL b,0,()) S'|none=>J0 () S'
 |0,i,0,S,s,h,hs,hd,hn=>by omega
 |0,i,n+1,S,s,h,hs,hd,hn=>by
  have e:l.drop i=[]:=List.drop_eq_nil_of_le (by omega)
  rw [e]
  refine ⟨S,h,hs,Grow.refl _ _,fun {R} J0 Jret=>?_⟩
  rw [rounds_succ]
  unfold G.Qbg.b0
  dsimp only
  rw [lt_nat,ifB_neg (by omega)]
  rfl
 |d+1,i,0,S,s,h,hs,hd,hn=>by omega
 |d+1,i,n+1,S,s,h,hs,hd,hn=>by
  have hi:i<l.length:=by omega
  obtain ⟨S1,h1,h2,h3⟩:=find_at hk h hs.big (l.getD i (bs []))
  rw [drop_cons' hi]
  have step:∀{R:Type} (J0:Unit→List LV→Option R) (Jret:OT→List LV→Option R),rounds (G.Qbg.b0 k J0 Jret) (n+1) ((I.w,0),l.map .str,(l.length:Int),(i:Int),()) S =
    ifB (findS s (l.getD i (bs []))).1.isSome (Jret ((fileT (findS s (l.getD i (bs []))).1).2.2.1,0,()) S1) (rounds (G.Qbg.b0 k J0 Jret) n ((I.w,0),l.map .str,(l.length:Int),((i+1:Nat):Int),()) S1):=fun {R} J0 Jret=>by
   rw [rounds_succ]
   unfold G.Qbg.b0
   dsimp only
   rw [lt_nat,ifB_pos hi,idxL_nat (by rw [List.length_map];exact hi),map_str_get l i hi,asLeaf_str,h3,wrap_succ (by omega)]
  unfold pickS
  cases hf:(findS s (l.getD i (bs []))).1 with
  |some f =>
   refine ⟨S1,h1,hs.find _,h2,fun {R} J0 Jret=>?_⟩
   rw [step,hf];rfl
  |none =>
   obtain ⟨S2,g1,g2,g3,g4⟩:=pick_loop hk l hl d (i+1) n h1 (hs.find _) (by omega) (by omega)
   refine ⟨S2,g1,g2,h2.trans g3,fun {R} J0 Jret=>?_⟩
   rw [step,hf]
   exact g4 J0 Jret
theorem pick_at {k:Nat} (hk:Many k) {a:Act} {I:Ids} {S:List LV} {s:Wk} (h:WkAt a I S s) (hs:WkOk s) (l:List ByteArray) (hl:l.length≤1000) :
  ∃S',WkAt a I S' (pickS l s).2∧WkOk (pickS l s).2∧Grow I S S'∧∀{R:Type} (K:OT→List LV→Option R),G.Qbg.fn k ((I.w,0),l.map .str,()) S K=K (outT 2 (pickS l s).1) S':=by
 obtain ⟨S',h1,h2,h3,h4⟩:=pick_loop hk l hl l.length 0 k h hs (by omega) (by unfold Many at hk;omega)
 rw [List.drop_zero] at h1 h2 h4
 refine ⟨S',h1,h2,h3,fun {R} K=>?_⟩
 unfold G.Qbg.fn
 dsimp only
 rw [List.length_map]
 refine (h4 _ _).trans ?_
 cases (pickS l s).1<;>rfl
def joinedS:ByteArray→List ByteArray→Wk→Option ByteArray×Wk
 |acc,[],s=>(some acc,s)
 |acc,p::ps,s=>match (findS s p).1 with
  |some f=>joinedS (acc++f.b) ps (findS s p).2
  |none=>(none,(findS s p).2)
theorem joined_loop {k:Nat} (hk:Many k) {a:Act} {I:Ids} (l:List ByteArray) (hl:l.length≤1000):∀(d i n:Nat) {S:List LV} {s:Wk} (acc:ByteArray),WkAt a I S s→WkOk s→l.length=i+d→d<n→acc.size≤i*100000 →
  ∃S',WkAt a I S' (joinedS acc (l.drop i) s).2∧WkOk (joinedS acc (l.drop i) s).2∧Grow I S S'∧∀{R:Type} (J0:List LV×Unit→List LV→Option R) (Jret:OT→List LV→Option R),
   rounds (G.Qbd.b0 k J0 Jret) n ((I.w,0),bytesL acc,l.map .str,(l.length:Int),(i:Int),()) S=match (joinedS acc (l.drop i) s).1 with|some b=>J0 (bytesL b,()) S'|none=>Jret ([],2,()) S'
 |0,i,0,S,s,acc,h,hs,hd,hn,ha=>by omega
 |0,i,n+1,S,s,acc,h,hs,hd,hn,ha=>by
  have e:l.drop i=[]:=List.drop_eq_nil_of_le (by omega)
  rw [e]
  refine ⟨S,h,hs,Grow.refl _ _,fun {R} J0 Jret=>?_⟩
  rw [rounds_succ]
  unfold G.Qbd.b0
  dsimp only
  rw [lt_nat,ifB_neg (by omega)]
  rfl
 |d+1,i,0,S,s,acc,h,hs,hd,hn,ha=>by omega
 |d+1,i,n+1,S,s,acc,h,hs,hd,hn,ha=>by
  have hi:i<l.length:=by omega
  obtain ⟨S1,h1,h2,h3⟩:=read_at hk h hs (l.getD i (bs []))
  rw [drop_cons' hi]
  unfold joinedS
  have start:∀{R:Type} (J0:List LV×Unit→List LV→Option R) (Jret:OT→List LV→Option R),rounds (G.Qbd.b0 k J0 Jret) (n+1) ((I.w,0),bytesL acc,l.map .str,(l.length:Int),(i:Int),()) S =
    (fun r3 S=>ifB (r3.2.1 != 0) (Jret ([],r3.2) S) (app 1 (bytesL acc) r3.1 fun l4=>rounds (G.Qbd.b0 k J0 Jret) n ((I.w,0),l4,l.map .str,(l.length:Int),((i+1:Nat):Int),()) S)) (outT 2 (readS s (l.getD i (bs []))).1) S1:=fun {R} J0 Jret=>by
   rw [rounds_succ]
   unfold G.Qbd.b0
   dsimp only
   rw [lt_nat,ifB_pos hi,idxL_nat (by rw [List.length_map];exact hi),map_str_get l i hi,asLeaf_str,h3,wrap_succ (by omega)]
  cases hf:(findS s (l.getD i (bs []))).1 with
  |none =>
   refine ⟨S1,h1,hs.find _,h2,fun {R} J0 Jret=>?_⟩
   rw [start]
   unfold readS
   rw [hf];rfl
  |some f =>
   have hb:=hs.found hf
   have e:(readS s (l.getD i (bs []))).1=some f.b:=by unfold readS;rw [hf];rfl
   obtain ⟨S2,g1,g2,g3,g4⟩:=joined_loop hk l hl d (i+1) n (acc++f.b) h1 (hs.find _) (by omega) (by omega) (by rw [ByteArray.size_append];omega)
   refine ⟨S2,g1,g2,h2.trans g3,fun {R} J0 Jret=>?_⟩
   rw [start,e]
   show ifB ((0:Int) != 0) _ (app 1 (bytesL acc) (bytesL f.b) _)=_
   rw [show ((0:Int) != 0)=false from rfl,ifB_false]
   rw [app_le (by rw [bytesL_len,bytesL_len];omega) (by rw [bytesL_len,bytesL_len];omega),bytesL_app]
   exact g4 J0 Jret
theorem joined_at {k:Nat} (hk:Many k) {a:Act} {I:Ids} {S:List LV} {s:Wk} (h:WkAt a I S s) (hs:WkOk s) (l:List ByteArray) (hl:l.length≤1000) :
  ∃S',WkAt a I S' (joinedS (bs []) l s).2∧WkOk (joinedS (bs []) l s).2∧Grow I S S'∧∀{R:Type} (K:OT→List LV→Option R),G.Qbd.fn k ((I.w,0),l.map .str,()) S K=K (outT 2 (joinedS (bs []) l s).1) S':=by
 obtain ⟨S',h1,h2,h3,h4⟩:=joined_loop hk l hl l.length 0 k (bs []) h hs (by omega) (by unfold Many at hk;omega) (by decide)
 rw [List.drop_zero] at h1 h2 h4
 refine ⟨S',h1,h2,h3,fun {R} K=>?_⟩
 unfold G.Qbd.fn
 dsimp only
 rw [List.length_map]
 refine (h4 _ _).trans ?_
 cases (joinedS (bs []) l s).1<;>rfl
end
end Go.Lm
set_option maxRecDepth 100000
namespace Go.Lm
section
variable {R:Type}
structure ActFine (a:Act):Prop where
 vars:a.vars.length≤1000∧∀x∈a.vars,x.2.size≤100000
 outs:a.outs.length≤1000
def valueS (a:Act) (name:ByteArray):Option ByteArray:=scan (fun i=>cond (strEq (a.vars.getD i varZ).1 name) (some (some ((a.vars.getD i varZ).2++bs [10]))) none) none a.vars.length 0
theorem gt100k (n:Nat):decide ((n:Int)>100000)=decide (n>100000):=gt_nat n 100000
theorem c9_at (a:Act) (I:Ids) (t:ByteArray) (n:Int) (K:ByteArray→Option R):ldStr (cellsW a I t n) (0+9) K=K t:=rfl
theorem c3_at (a:Act) (I:Ids) (t:ByteArray) (n:Int) (K:List LV→Option R):ldSl 1 (cellsW a I t n) (0+0+3) K=K (a.outs.map .str):=rfl
theorem c7_at (a:Act) (I:Ids) (t:ByteArray) (n:Int) (K:LV→Option R):ldRaw (cellsW a I t n) (0+7) K=K (.map I.o):=rfl
theorem c10_at (a:Act) (I:Ids) (t:ByteArray) (n:Int) (K:Int→Option R):ldInt .i64 (cellsW a I t n) (0+10) K=K n:=rfl
theorem s10_at (a:Act) (I:Ids) (t:ByteArray) (n m:Int) (K:List LV→Option R):stO (cellsW a I t n) (0+10) [.int .i64 m] K=K (cellsW a I t m):=rfl
theorem s9_at (a:Act) (I:Ids) (t u:ByteArray) (n:Int) (K:List LV→Option R):stO (cellsW a I t n) (0+9) [.str u] K=K (cellsW a I u n):=rfl
theorem amap_at (i:Nat) (K:Nat→Option R):asMap (.map i) K=K i:=rfl
theorem value_at {k:Nat} (hk:Many k) {a:Act} (ha:ActFine a) {I:Ids} {S:List LV} {s:Wk} (h:WkAt a I S s) (name:ByteArray) {R:Type} (K:OT→List LV→Option R) :
  G.Qbl.fn k ((I.w,0),name,()) S K=K (outT 4 (valueS a name)) S:=by
 have hk':=hk
 unfold Many at hk'
 have hl:=ha.vars.1
 unfold G.Qbl.fn
 dsimp only
 rw [at_of h.w]
 show rounds _ k (name,a.vars.map varL,((a.vars.map varL).length:Int),0,()) S=_
 rw [List.length_map]
 refine (rounds_scan0 (fun i=>(name,a.vars.map varL,(a.vars.length:Int),(i:Int),())) S a.vars.length k (fun i=>(cond (strEq (a.vars.getD i varZ).1 name) (some (some ((a.vars.getD i varZ).2++bs [10]))) none).map fun o=>K (outT 4 o) S) (K (outT 4 none) S) (fun rec i hi=>?_) (fun rec=>?_) (by omega)).trans (scan_map (fun o=>K (outT 4 o) S) _ _)
 ·unfold G.Qbl.b0
  dsimp only
  rw [lt_nat,ifB_pos hi,idxL_nat (by rw [List.length_map];exact hi),var_get a.vars i hi,varL_mat]
  show ifB (strEq (a.vars.getD i varZ).1 name) _ _=_
  have hb:=ha.vars.2 _ (mem_get (z:=varZ) hi)
  cases strEq (a.vars.getD i varZ).1 name with
  |true =>
   rw [ifB_true,cat_le (by have:(bs [10]).size=1:=rfl;omega),ifB_pos (by rw [ByteArray.size_append];have:(bs [10]).size=1:=rfl;omega)]
   rfl
  |false =>
   rw [ifB_false,wrap_succ (by omega)]
   rfl
 ·unfold G.Qbl.b0
  dsimp only
  rw [lt_nat,ifB_neg (Nat.lt_irrefl _)]
  rfl
def tellS (s:Wk) (ws:List ByteArray):Int×Wk:=cond (decide ((s.told++joinS ws++bs [10]).size>100000)) (5,s) (0,{ s with told:=s.told++joinS ws++bs [10] })
theorem WkAt.told {a:Act} {I:Ids} {S:List LV} {s:Wk} (h:WkAt a I S s) (t:ByteArray) (n:Int):WkAt a I (S.set I.w (.obj 74 (cellsW a I t n))) { s with told:=t,total:=n }∧Grow I S (S.set I.w (.obj 74 (cellsW a I t n))):=by
 obtain ⟨h1,h2,h3⟩:=h.ne
 refine ⟨⟨getD_set_self _ _ _ (getD_lt h.w (by simp)),?_,?_,?_,h.io,h.il,h.ol⟩,by simp,fun id _ _ _ h4=>getD_set_other _ _ h4⟩
 ·rw [getD_set_other _ _ (Ne.symm h1)];exact h.i
 ·rw [getD_set_other _ _ (Ne.symm h2)];exact h.o
 ·rw [getD_set_other _ _ (Ne.symm h3)];exact h.l
theorem tell_at {k:Nat} (hk:Many k) {a:Act} {I:Ids} {S:List LV} {s:Wk} (h:WkAt a I S s) (ht:s.told.size≤100000) (ws:List ByteArray) (hl:ws.length≤1000) (hs:∀x∈ws,x.size≤100000) :
  ∃S',WkAt a I S' (tellS s ws).2∧Grow I S S'∧∀{R:Type} (K:Int×Unit→List LV→Option R),G.Qbk.fn k ((I.w,0),ws.map .str,()) S K=K ((tellS s ws).1,()) S':=by
 have hj:=joinS_size ws 100000 hs
 have hj2:ws.length*(100000+1)≤1000*100001:=Nat.mul_le_mul hl (Nat.le_refl _)
 have e1:(bs [10]).size=1:=rfl
 have start:∀{R:Type} (K:Int×Unit→List LV→Option R),G.Qbk.fn k ((I.w,0),ws.map .str,()) S K=ifB (decide ((s.told++joinS ws++bs [10]).size>100000)) (K (5,()) S) (K (0,()) (S.set I.w (.obj 74 (cellsW a I (s.told++joinS ws++bs [10]) s.total)))):=fun {R} K=>by
  unfold G.Qbk.fn
  dsimp only
  rw [at_of h.w,c9_at,Join_at hk ws hl hs,quiR_at]
  dsimp only
  rw [cat_le (by omega),cat_le (by rw [ByteArray.size_append];omega),gt100k,at_of h.w,s9_at,setS_of]
 unfold tellS
 cases hc:decide ((s.told++joinS ws++bs [10]).size>100000) with
 |true=>exact ⟨S,h,Grow.refl _ _,fun {R} K=>by rw [start,hc];rfl⟩
 |false =>
  obtain ⟨g1,g2⟩:=h.told (s.told++joinS ws++bs [10]) s.total
  exact ⟨_,g1,g2,fun {R} K=>by rw [start,hc];rfl⟩
def sameS (s:Wk) (p q:ByteArray):Int×Wk:=match (readS s p).1 with
 |none=>(2,(readS s p).2)
 |some b=>match (readS (readS s p).2 q).1 with
  |none=>(2,(readS (readS s p).2 q).2)
  |some c=>(cond (strEq b c) 0 4,(readS (readS s p).2 q).2)
theorem equal_at (k:Nat) (b c:ByteArray) (S:List LV) (K:Bool×Unit→List LV→Option R):G.Qbx.fn k (bytesL b,bytesL c,()) S K=K (strEq b c,()) S:=by
 unfold G.Qbx.fn
 dsimp only
 rw [strOf_bytes,strOf_bytes]
theorem same_at {k:Nat} (hk:Many k) {a:Act} {I:Ids} {S:List LV} {s:Wk} (h:WkAt a I S s) (hs:WkOk s) (p q:ByteArray) :
  ∃S',WkAt a I S' (sameS s p q).2∧WkOk (sameS s p q).2∧Grow I S S'∧∀{R:Type} (K:Int×Unit→List LV→Option R),G.Qbj.fn k ((I.w,0),p,q,()) S K=K ((sameS s p q).1,()) S':=by
 obtain ⟨S1,h1,h2,h3⟩:=read_at hk h hs p
 have hs1:WkOk (readS s p).2:=hs.find p
 obtain ⟨S2,g1,g2,g3⟩:=read_at hk h1 hs1 q
 have hs2:WkOk (readS (readS s p).2 q).2:=hs1.find q
 unfold sameS
 cases hp:(readS s p).1 with
 |none =>
  refine ⟨S1,h1,hs1,h2,fun {R} K=>?_⟩
  unfold G.Qbj.fn
  rw [h3,hp];rfl
 |some b =>
  have start:∀{R:Type} (K:Int×Unit→List LV→Option R),G.Qbj.fn k ((I.w,0),p,q,()) S K=(fun (r2:OT) S=>ifB (r2.2.1 != 0) (K r2.2 S) (G.Qbx.fn k (bytesL b,r2.1,()) S fun r3 S=>ifB (!r3.1) (K (4,()) S) (K (0,()) S))) (outT 2 (readS (readS s p).2 q).1) S2:=fun {R} K=>by
   unfold G.Qbj.fn
   rw [h3,hp]
   show ifB ((0:Int) != 0) _ (G.Qbh.fn k _ _ _)=_
   rw [show ((0:Int) != 0)=false from rfl,ifB_false,g3]
   rfl
  cases hq:(readS (readS s p).2 q).1 with
  |none =>
   refine ⟨S2,g1,hs2,h2.trans g2,fun {R} K=>?_⟩
   rw [start,hq];rfl
  |some c =>
   refine ⟨S2,g1,hs2,h2.trans g2,fun {R} K=>?_⟩
   rw [start,hq]
   show ifB ((0:Int) != 0) _ (G.Qbx.fn k (bytesL b,bytesL c,()) S2 _)=_
   rw [show ((0:Int) != 0)=false from rfl,ifB_false,equal_at]
   dsimp only
   cases strEq b c<;>rfl
def putF:List WF→WF→List WF
 |[],f=>[f]
 |g::l,f=>cond (decide (g.p=f.p)) (f::l) (g::putF l f)
theorem filesM_put:∀(l:List WF) (f:WF),mapPut (filesM l) (.str f.p) f.lv=filesM (putF l f)
 |[],f=>rfl
 |g::l,f=>by
  show (match decide (g.p=f.p) with|true=>(LV.str g.p,f.lv)::filesM l|false=>(LV.str g.p,g.lv)::mapPut (filesM l) (.str f.p) f.lv)=_
  unfold putF
  cases h:decide (g.p=f.p) with
  |true=>rw [of_decide_eq_true h];rfl
  |false=>rw [filesM_put l f];rfl
def oldN (s:Wk) (p:ByteArray):Nat:=((getF s.wr p).map fun f=>f.b.size).getD 0
def writeS (a:Act) (s:Wk) (p b:ByteArray) (run:Bool):Int×Wk :=
 cond (a.outs.any (strEq p)) (cond (decide (b.size>100000)) (5,s) (cond (decide (s.total-(oldN s p:Int)+b.size>2000000)) (5,s) (0,{ s with total:=s.total-(oldN s p:Int)+b.size,wr:=putF s.wr ⟨p,run,b⟩ }))) (3,s)
theorem clone_bytes (k:Nat) (b:ByteArray) (hb:b.size≤100000) (S:List LV) (K:List LV×Unit→List LV→Option R):G.Qcp.fn k (bytesL b,()) S K=K (bytesL b,()) S:=by
 unfold G.Qcp.fn handF
 rw [cloneL5 (by rw [bytesL_len];omega) (by decide)]
theorem wwrite_at {k:Nat} (hk:Many k) {a:Act} (ha:ActFine a) {I:Ids} {S:List LV} {s:Wk} (h:WkAt a I S s) (hs:WkOk s) (ht:0≤s.total∧s.total≤2000000) (p b:ByteArray) (hb:b.size≤140737488355328) (run:Bool) :
  ∃S',WkAt a I S' (writeS a s p b run).2∧Grow I S S'∧∀{R:Type} (K:Int×Unit→List LV→Option R),G.Qbm.fn k ((I.w,0),p,bytesL b,run,()) S K=K ((writeS a s p b run).1,()) S':=by
 have hold:oldN s p≤100000:=by
  unfold oldN
  cases hg:getF s.wr p with
  |none=>exact Nat.zero_le _
  |some f=>exact hs.wr f (List.mem_of_find?_eq_some hg)
 have start:∀{R:Type} (K:Int×Unit→List LV→Option R),G.Qbm.fn k ((I.w,0),p,bytesL b,run,()) S K=ifB (!(a.outs.any (strEq p))) (K (3,()) S) (G.Qbm.q0 k K ((I.w,0),p,bytesL b,run,s.total-(oldN s p:Int)+b.size,()) S):=fun {R} K=>by
  unfold G.Qbm.fn
  dsimp only
  rw [at_of h.w,c3_at,contains_at hk a.outs (by have:=ha.outs;omega)]
  dsimp only
  congr 1
  rw [at_of h.w,c10_at,at_of h.w,c7_at,amap_at,mp_at h.o,filesM_get]
  refine (file_cells _ _).trans ?_
  have e:((fileT (getF s.wr p)).2.2.1.length:Int)=(oldN s p:Int):=by
   unfold oldN
   cases getF s.wr p with
   |none=>rfl
   |some f=>show ((bytesL f.b).length:Int)=_;rw [bytesL_len];rfl
  rw [e,bytesL_len,wrap_id (n:=s.total-(oldN s p:Int)) (by omega) (by omega),wrap_id (by omega) (by omega)]
 have two:∀{R:Type} (K:Int×Unit→List LV→Option R),G.Qbm.q0 k K ((I.w,0),p,bytesL b,run,s.total-(oldN s p:Int)+b.size,()) S=ifB (decide (b.size>100000)) (K (5,()) S) (ifB (decide (s.total-(oldN s p:Int)+b.size>2000000)) (K (5,()) S) (G.Qbm.q1 k K ((I.w,0),p,bytesL b,run,s.total-(oldN s p:Int)+b.size,()) S)):=fun {R} K=>by
  unfold G.Qbm.q0
  dsimp only
  rw [bytesL_len,gt100k]
 unfold writeS
 cases hc:a.outs.any (strEq p) with
 |false=>exact ⟨S,h,Grow.refl _ _,fun {R} K=>by rw [start,hc];rfl⟩
 |true =>
  cases h5:decide (b.size>100000) with
  |true=>exact ⟨S,h,Grow.refl _ _,fun {R} K=>by rw [start,hc,Bool.not_true,ifB_false,two,h5];rfl⟩
  |false =>
   cases h6:decide (s.total-(oldN s p:Int)+b.size>2000000) with
   |true=>exact ⟨S,h,Grow.refl _ _,fun {R} K=>by rw [start,hc,Bool.not_true,ifB_false,two,h5,ifB_false,h6];rfl⟩
   |false =>
    have hb5:b.size≤100000:=by have:=of_decide_eq_false h5;omega
    let n:Int:=s.total-(oldN s p:Int)+b.size
    obtain ⟨g1,g2⟩:=h.told s.told n
    have hne:=h.ne
    refine ⟨(S.set I.w (.obj 74 (cellsW a I s.told n))).set I.o (.mp .str (filesM (putF s.wr ⟨p,run,b⟩))),⟨?_,?_,?_,?_,h.io,h.il,h.ol⟩,⟨by simp,fun id h1 h2 h3 h4=>?_⟩,fun {R} K=>?_⟩
    ·rw [getD_set_other _ _ hne.2.1];exact g1.w
    ·rw [getD_set_other _ _ h.io];exact g1.i
    ·exact getD_set_self _ _ _ (by have:=getD_lt h.o (by simp);simpa using this)
    ·rw [getD_set_other _ _ (Ne.symm h.ol)];exact g1.l
    ·rw [getD_set_other _ _ h2,getD_set_other _ _ h4]
    ·rw [start,hc,Bool.not_true,ifB_false,two,h5,ifB_false,h6,ifB_false]
     unfold G.Qbm.q1
     dsimp only
     rw [at_of h.w,s10_at,setS_of]
     unfold G.Qbm.q2
     dsimp only
     rw [at_of g1.w,c7_at,amap_at,clone_bytes k b hb5,quiR_at,mp_at g1.o,setS_of]
     have e:=filesM_put s.wr ⟨p,run,b⟩
     dsimp only
     rw [←e]
     rfl
end
end Go.Lm
set_option maxRecDepth 100000
namespace Go.Lm
section
variable {R:Type}
def bL (l:Bs):List LV:=l.map fun b=>.int .u8 (b.toNat:Int)
theorem bL_of (b:ByteArray):bytesL b=bL (toL b):=rfl
theorem bL_len (l:Bs):(bL l).length=l.length:=by simp [bL]
theorem strOf_bL (l:Bs) (K:ByteArray→Option R):strOf (bL l) K=K (ofL l):=by
 unfold strOf bL
 rw [strL_hex]
 rfl
theorem slL_take {xs:List LV} {i:Nat} (h:i≤xs.length) (K:List LV→Option R):slL xs 0 (i:Int) K=K (xs.take i):=by
 unfold slL
 rw [ifB_pos ⟨by omega,by omega,by omega⟩]
 simp
theorem slL_drop {xs:List LV} {i:Nat} (h:i≤xs.length) (K:List LV→Option R):slL xs (i:Int) (xs.length:Int) K=K (xs.drop i):=by
 unfold slL
 rw [ifB_pos ⟨by omega,by omega,by omega⟩]
 simp
theorem bL_take (l:Bs) (i:Nat):(bL l).take i=bL (l.take i):=by simp [bL]
theorem bL_drop (l:Bs) (i:Nat):(bL l).drop i=bL (l.drop i):=by simp [bL]
theorem indexB_at (k:Nat) (l:Bs) (S:List LV) (K:Int×Unit→List LV→Option R):H.BIndexByte.fn k (bL l,10,()) S K=K (Lib.indexByte l 10,()) S:=by
 unfold H.BIndexByte.fn handF bIndexByteF bL
 rw [strL_hex]
 rfl
def linesL:Nat→Bs→List Bs
 |0,_=>[]
 |n+1,l=>match cutL 10 l with
  |some (a,r)=>(a++[10])::linesL n r
  |none=>match l with
   |[]=>[]
   |b::l=>[b::l]
def linesS (b:ByteArray):List ByteArray:=(linesL (b.size+1) (toL b)).map ofL
theorem linesL_len:∀(n:Nat) (l:Bs),(linesL n l).length≤l.length
 |0,l=>Nat.zero_le _
 |n+1,l=>by
  unfold linesL
  cases h:cutL 10 l with
  |none=>cases l<;>simp
  |some ar =>
   obtain ⟨a,r⟩:=ar
   have h1:=cutL_len h
   have h2:=linesL_len n r
   simp only [List.length_cons]
   omega
theorem line_step (k:Nat) (l:Bs) (hl:l.length≤140737488355328) (acc:List ByteArray) (ha:acc.length≤140737488355) (S:List LV) (J0:List LV×Unit→List LV→Option R) (rec:List LV×List LV×Unit→List LV→Option R) :
  G.Qav.b0 k J0 rec (bL l,acc.map .str,()) S=match cutL 10 l with
   |some (a,r)=>rec (bL r,(acc++[ofL (a++[10])]).map .str,()) S
   |none=>match l with
    |[]=>J0 (acc.map .str,()) S
    |b::l=>rec ([],(acc++[ofL (b::l)]).map .str,()) S:=by
 have q0:∀(i:Nat),i≤l.length→G.Qav.q0 k rec (bL l,acc.map .str,(i:Int),()) S=rec (bL (l.drop i),(acc++[ofL (l.take i)]).map .str,()) S:=fun i hi=>by
  unfold G.Qav.q0
  dsimp only
  rw [slL_take (by rw [bL_len];exact hi),bL_take,strOf_bL,slL_drop (by rw [bL_len];exact hi),bL_drop,app_le (by rw [List.length_map];simp;omega) (by rw [List.length_map];simp;omega)]
  rw [List.map_append]
  rfl
 unfold G.Qav.b0
 dsimp only
 cases l with
 |nil =>
  rw [bL_len,ifB_neg (by simp)]
  rfl
 |cons b l' =>
  rw [bL_len,ifB_pos (by simp),indexB_at]
  dsimp only
  have hx:=cutL_index 10 (b::l')
  cases hc:cutL 10 (b::l') with
  |none =>
   rw [hc] at hx
   dsimp only at hx
   rw [hx]
   rw [show (IntKind.wrap .i64 (-1+1)==0)=true from rfl,ifB_true,q0 _ (Nat.le_refl _),List.drop_length,List.take_length]
   rfl
  |some ar =>
   obtain ⟨a,r⟩:=ar
   rw [hc] at hx
   dsimp only at hx
   have hlen:=cutL_len hc
   have ha2:a.length<9223372036854775807:=by omega
   rw [hx,wrap_succ ha2]
   have e:(((a.length+1:Nat):Int)==0)=false:=by
    cases hb:(((a.length+1:Nat):Int)==0) with
    |false=>rfl
    |true =>
     have hb:=eq_of_beq hb
     have h0:((a.length+1:Nat):Int)≠0:=Int.natCast_ne_zero.2 (Nat.succ_ne_zero _)
     exact absurd hb h0
   rw [e,ifB_false,q0 (a.length+1) (by rw [hlen];omega)]
   obtain ⟨h1,_⟩:=cutL_some hc
   rw [h1]
   have e1:(a++10::r).drop (a.length+1)=r:=by rw [←List.drop_drop,List.drop_left];rfl
   have e2:(a++10::r).take (a.length+1)=a++[10]:=by rw [List.take_append];simp;exact List.take_of_length_le (by omega)
   rw [e1,e2]
theorem lines_loop (k:Nat):∀(n f:Nat) (l:Bs),l.length<n→n≤f→l.length≤140737488355→∀(acc:List ByteArray),acc.length+l.length≤140737488355→∀(S:List LV) (J0:List LV×Unit→List LV→Option R),
  rounds (G.Qav.b0 k J0) f (bL l,acc.map .str,()) S=J0 ((acc++(linesL n l).map ofL).map .str,()) S
 |0,f,l,h,_,_,_,_,_,_=>by omega
 |n+1,0,l,h,hf,_,_,_,_,_=>by omega
 |n+1,f+1,l,h,hf,hl,acc,ha,S,J0=>by
  rw [rounds_succ,line_step k l (by omega) acc (by omega)]
  unfold linesL
  cases hc:cutL 10 l with
  |none =>
   cases l with
   |nil=>simp
   |cons b l' =>
    dsimp only
    cases f with
    |zero=>simp at h;omega
    |succ f =>
     rw [rounds_succ]
     have:=line_step k [] (by simp) (acc++[ofL (b::l')]) (by simp at ha ⊢;omega) S J0 (rounds (G.Qav.b0 k J0) f)
     exact this
  |some ar =>
   obtain ⟨a,r⟩:=ar
   have hlen:=cutL_len hc
   dsimp only
   rw [lines_loop k n f r (by omega) (by omega) (by omega) (acc++[ofL (a++[10])]) (by simp;omega)]
   simp
theorem lines_at {k:Nat} (hk:Many k) (b:ByteArray) (hb:b.size≤140737488) (S:List LV) (K:List LV×Unit→List LV→Option R):G.Qav.fn k (bytesL b,()) S K=K ((linesS b).map .str,()) S:=by
 unfold Many at hk
 unfold G.Qav.fn
 dsimp only
 rw [bL_of]
 have:=lines_loop k (b.size+1) k (toL b) (by rw [toL_len];omega) (by omega) (by rw [toL_len];omega) [] (by rw [toL_len];simp;omega) S K
 simpa [linesS] using this
theorem linesL_size:∀(n:Nat) (l:Bs),∀w∈linesL n l,w.length≤l.length
 |0,_,w,h=>by cases h
 |n+1,l,w,h=>by
  unfold linesL at h
  cases hc:cutL 10 l with
  |none =>
   rw [hc] at h
   cases l with
   |nil=>cases h
   |cons b l'=>simp at h;subst h;exact Nat.le_refl _
  |some ar =>
   obtain ⟨a,r⟩:=ar
   rw [hc] at h
   have hlen:=cutL_len hc
   rcases List.mem_cons.1 h with rfl|h
   ·simp;omega
   ·have:=linesL_size n r w h;omega
theorem linesS_size {b:ByteArray} {w:ByteArray} (h:w∈linesS b):w.size≤b.size:=by
 obtain ⟨l,hl,rfl⟩:=List.mem_map.1 h
 rw [ofL_size,←toL_len b]
 exact linesL_size _ _ l hl
theorem linesS_len (b:ByteArray):(linesS b).length≤b.size:=by
 unfold linesS
 rw [List.length_map,←toL_len b]
 exact linesL_len _ _
def trimS (s:ByteArray):ByteArray:=cond (decide (1≤s.size)&&strEq (s.extract (s.size-1) s.size) (bs [10])) (s.extract 0 (s.size-1)) s
theorem slStr_any {s:ByteArray} {i j:Nat} (h:i≤j) (h2:j≤s.size) (K:ByteArray→Option R):slStr s (i:Int) (j:Int) K=K (s.extract i j):=by
 unfold slStr
 rw [ifB_pos ⟨by omega,by omega,by omega⟩]
 rfl
theorem ge_nat (n m:Nat):decide ((n:Int)≥(m:Int))=decide (m≤n):=by simp
theorem trim_at (k:Nat) (s:ByteArray) (hs:s.size≤140737488355328) (S:List LV) (K:ByteArray×Unit→List LV→Option R):G.Qdu.fn k (s,bs [10],()) S K=K (trimS s,()) S:=by
 have e1:(bs [10]).size=1:=rfl
 unfold G.Qdu.fn G.Qce.fn G.Qcd.fn trimS
 dsimp only
 rw [ge_nat,e1]
 cases h:decide (1≤s.size) with
 |false=>rfl
 |true =>
  have h1:=of_decide_eq_true h
  have ew:IntKind.wrap .i64 ((s.size:Int)-((1:Nat):Int))=((s.size-1:Nat):Int):=by rw [wrap_id (by omega) (by omega)];omega
  rw [ifB_true,ew,slStr_any (by omega) (Nat.le_refl _),Bool.true_and]
  cases strEq (s.extract (s.size-1) s.size) (bs [10]) with
  |false=>rfl
  |true =>
   rw [ifB_true,slStr_nat (by omega)]
   rfl
theorem trimS_size (s:ByteArray):(trimS s).size≤s.size:=by
 unfold trimS
 cases decide (1≤s.size)&&strEq (s.extract (s.size-1) s.size) (bs [10]) with
 |false=>exact Nat.le_refl _
 |true=>rw [cond_true,ByteArray.size_extract];omega
def endedS (s:ByteArray):ByteArray:=trimS s++bs [10]
theorem ended_at (k:Nat) (s:ByteArray) (hs:s.size≤140737488355328) (S:List LV) (K:ByteArray×Unit→List LV→Option R):G.Qap.fn k (s,()) S K=K (endedS s,()) S:=by
 have e1:(bs [10]).size=1:=rfl
 have:=trimS_size s
 unfold G.Qap.fn
 dsimp only
 rw [trim_at k s hs]
 dsimp only
 rw [cat_le (by omega)]
 rfl
abbrev inclW:ByteArray:=bs [105,110,99,108,117,100,101,32]
def inclS (s:ByteArray):ByteArray×Bool:=cond (decide (8≤s.size)&&strEq (s.extract 0 8) inclW) (s.extract 8 s.size,true) (s,false)
theorem incl_at (k:Nat) (s:ByteArray) (S:List LV) (K:ByteArray×Bool×Unit→List LV→Option R):G.Qdn.fn k (s,inclW,()) S K=K ((inclS s).1,(inclS s).2,()) S:=by
 have e1:inclW.size=8:=rfl
 unfold G.Qdn.fn G.Qca.fn G.Qcc.fn inclS
 dsimp only
 rw [ge_nat,e1]
 cases h:decide (8≤s.size) with
 |false=>rfl
 |true =>
  have h1:=of_decide_eq_true h
  rw [ifB_true,slStr_nat h1,Bool.true_and]
  cases strEq (s.extract 0 8) inclW with
  |false=>rfl
  |true =>
   rw [Bool.not_true,ifB_false,slStr_any h1 (Nat.le_refl _)]
   rfl
end
end Go.Lm
set_option maxRecDepth 100000
namespace Go.Lm
section
variable {R:Type}
structure Pre (S S':List LV):Prop where
 len:S.length≤S'.length
 old:∀j,j<S.length→S'.getD j .any=S.getD j .any
theorem Pre.refl (S:List LV):Pre S S:=⟨Nat.le_refl _,fun _ _=>rfl⟩
theorem Pre.trans {S S' S'':List LV} (h:Pre S S') (h':Pre S' S''):Pre S S'':=⟨Nat.le_trans h.len h'.len,fun j hj=>(h'.old j (Nat.lt_of_lt_of_le hj h.len)).trans (h.old j hj)⟩
theorem Pre.app (S T:List LV):Pre S (S++T):=⟨by simp,fun j hj=>getD_app_lt _ _ _ _ hj⟩
theorem Pre.set {S S':List LV} (h:Pre S S') {id:Nat} (hid:S.length≤id) (v:LV):Pre S (S'.set id v):=⟨by rw [List.length_set];exact h.len,fun j hj=>(getD_set_other _ _ (by omega)).trans (h.old j hj)⟩
theorem Pre.split {S S':List LV} (h:Pre S S'):S'=S++S'.drop S.length:=by
 have hl:=h.len
 apply listExt (by simp;omega)
 intro t
 by_cases ht:t<S.length
 ·rw [getD_app_lt _ _ _ _ ht,h.old t ht]
 ·simp only [List.getD_eq_getElem?_getD]
  rw [List.getElem?_append_right (by omega),List.getElem?_drop]
  congr 2;omega
def RowV (S0:List LV) (D:List ByteArray) (v:LV) (Sx:List LV):Prop :=
 Pre S0 Sx∧((D=[]∧v = .nilsl)∨∃id,S0.length≤id∧v = .osl id 0 1 D.length∧Sx.getD id .any = .vec 9 (D.map .str))
theorem vec_at {S:List LV} {id:Nat} {xs:List LV} (h:S.getD id .any = .vec 9 xs) (K:(List LV→LV)→List LV→Option R):objAt S id K=K (.vec 9) xs:=by
 unfold objAt;rw [h]
theorem flat1 (s:ByteArray):flatC 1 [.str s]=[.str s]:=rfl
theorem row_app {S0:List LV} {D:List ByteArray} {v:LV} {Sx:List LV} (h:RowV S0 D v Sx) (hD:D.length≤140737488355) (s:ByteArray) :
  ∃i S',RowV S0 (D++[s]) (.osl i 0 1 (D++[s]).length) S'∧∀{R:Type} (K:Nat→Nat→List LV→Option R),appO 9 1 16 Sx v [.str s] K=K i (D++[s]).length S':=by
 obtain ⟨hp,⟨rfl,rfl⟩|⟨id,hid,rfl,hv⟩⟩:=h
 ·refine ⟨Sx.length,Sx++[.vec 9 [.str s]],⟨hp.trans (Pre.app _ _),.inr ⟨_,hp.len,rfl,by simp [List.getD_eq_getElem?_getD]⟩⟩,fun {R} K=>rfl⟩
 ·have hlt:=getD_lt hv (by simp)
  refine ⟨Sx.length,Sx.set id .any++[.vec 9 ((D++[s]).map .str)],⟨(hp.set hid _).trans (Pre.app _ _),.inr ⟨_,hp.len,rfl,by rw [show Sx.length=(Sx.set id .any).length by simp];simp [List.getD_eq_getElem?_getD]⟩⟩,fun {R} K=>?_⟩
  unfold appO cellsAt
  dsimp only
  rw [hv]
  dsimp only
  have hc:(Nat.beq 9 9&&Nat.beq 0 0&&Nat.beq 1 1&&Nat.blt 0 1&&Nat.ble (D.length*1) (D.map LV.str).length&&fitsB D.length [LV.str s].length 16)=true:=by
   have h1:Nat.ble (D.length*1) (D.map LV.str).length=true:=Nat.ble_eq_true_of_le (by simp)
   have h2:fitsB D.length [LV.str s].length 16=true:=by unfold fitsB;rw [decide_eq_true];simp;omega
   rw [h1,h2];rfl
  rw [hc,ifB_true,flat1,List.map_append,List.length_append]
  have e:(D.map LV.str).take (D.length*1)=D.map LV.str:=by rw [Nat.mul_one,List.take_of_length_le (by simp)]
  rw [e]
  rfl
theorem objline_nil (k:Nat) (v:LV) (S:List LV) (J0:LV×Unit→List LV→Option R) (rec:List LV×LV×Unit→List LV→Option R):G.Qaw.b0 k J0 rec (bL [],v,()) S=J0 (v,()) S:=by
 unfold G.Qaw.b0
 dsimp only
 rw [bL_len,ifB_neg (by simp)]
def cutN (l:Bs):Nat:=match cutL 10 l with
 |some (a,_)=>a.length+1
 |none=>l.length
theorem objline_cons (k:Nat) (b:UInt8) (l':Bs) (hl:(b::l').length≤140737488355328) (v:LV) (S:List LV) (J0:LV×Unit→List LV→Option R) (rec:List LV×LV×Unit→List LV→Option R) :
  G.Qaw.b0 k J0 rec (bL (b::l'),v,()) S=G.Qaw.q0 k (fun o S=>rec (o.1,(.osl o.2.1.1 o.2.1.2.1 1 o.2.1.2.2),()) S) (bL (b::l'),v,((cutN (b::l'):Nat):Int),()) S:=by
 have hx:=cutL_index 10 (b::l')
 unfold G.Qaw.b0 cutN
 dsimp only
 rw [bL_len,ifB_pos (by simp),indexB_at]
 dsimp only
 cases hc:cutL 10 (b::l') with
 |none =>
  rw [hc] at hx
  dsimp only at hx
  rw [hx,show (IntKind.wrap .i64 (-1+1)==0)=true from rfl,ifB_true]
 |some ar =>
  obtain ⟨a,r⟩:=ar
  rw [hc] at hx
  dsimp only at hx
  have hlen:=cutL_len hc
  have ha2:a.length<9223372036854775807:=by omega
  have e:(((a.length+1:Nat):Int)==0)=false:=by
   cases hb:(((a.length+1:Nat):Int)==0) with
   |false=>rfl
   |true =>
    have hb:=eq_of_beq hb
    have h0:((a.length+1:Nat):Int)≠0:=Int.natCast_ne_zero.2 (Nat.succ_ne_zero _)
    exact absurd hb h0
  rw [hx,wrap_succ ha2,e,ifB_false]
theorem objlines_loop (k:Nat) (S0:List LV):∀(n f:Nat) (l:Bs),l.length<n→n≤f→l.length≤140737488→∀(D:List ByteArray),D.length+l.length≤140737488→∀(v:LV) (Sx:List LV),RowV S0 D v Sx →
  ∃v' S',RowV S0 (D++(linesL n l).map ofL) v' S'∧∀{R:Type} (J0:LV×Unit→List LV→Option R),rounds (G.Qaw.b0 k J0) f (bL l,v,()) Sx=J0 (v',()) S'
 |0,f,l,h,_,_,_,_,_,_,_=>by omega
 |n+1,0,l,h,hf,_,_,_,_,_,_=>by omega
 |n+1,f+1,l,h,hf,hl,D,hD,v,Sx,hr=>by
  have q0:∀(i:Nat),i≤l.length→∃id S',RowV S0 (D++[ofL (l.take i)]) (.osl id 0 1 (D++[ofL (l.take i)]).length) S'∧∀{R:Type} (Jn:List LV×(Nat×Nat×Nat)×Unit→List LV→Option R),G.Qaw.q0 k Jn (bL l,v,(i:Int),()) Sx=Jn (bL (l.drop i),(id,0,(D++[ofL (l.take i)]).length),()) S':=fun i hi=>by
   obtain ⟨id,S',h1,h2⟩:=row_app hr (by omega) (ofL (l.take i))
   refine ⟨id,S',h1,fun {R} Jn=>?_⟩
   unfold G.Qaw.q0
   dsimp only
   rw [slL_take (by rw [bL_len];exact hi),bL_take,strOf_bL,slL_drop (by rw [bL_len];exact hi),bL_drop,h2]
  unfold linesL
  cases l with
  |nil =>
   refine ⟨v,Sx,by simpa [cutL] using hr,fun {R} J0=>?_⟩
   rw [rounds_succ,objline_nil]
  |cons b l' =>
   have hl2:(b::l').length≤140737488355328:=by omega
   cases hc:cutL 10 (b::l') with
   |none =>
    have hn:cutN (b::l')=(b::l').length:=by unfold cutN;rw [hc]
    obtain ⟨id,S1,g1,g2⟩:=q0 _ (Nat.le_refl _)
    rw [List.take_length] at g1 g2
    refine ⟨.osl id 0 1 (D++[ofL (b::l')]).length,S1,g1,fun {R} J0=>?_⟩
    rw [rounds_succ,objline_cons k b l' hl2,hn,g2,List.drop_length]
    dsimp only
    cases f with
    |zero=>simp at h;omega
    |succ f=>rw [rounds_succ,objline_nil]
   |some ar =>
    obtain ⟨a,r⟩:=ar
    have hlen:=cutL_len hc
    obtain ⟨h1,_⟩:=cutL_some hc
    have hn:cutN (b::l')=a.length+1:=by unfold cutN;rw [hc]
    have hle:a.length+1≤(b::l').length:=by rw [hlen];omega
    obtain ⟨id,S1,g1,g2⟩:=q0 (a.length+1) hle
    have e1:(b::l').drop (a.length+1)=r:=by rw [h1,←List.drop_drop,List.drop_left];rfl
    have e2:(b::l').take (a.length+1)=a++[10]:=by rw [h1,List.take_append];simp;exact List.take_of_length_le (by omega)
    rw [e2] at g1 g2
    rw [e1] at g2
    have hr1:r.length+1≤(b::l').length:=by rw [hlen];omega
    obtain ⟨v',S2,k1,k2⟩:=objlines_loop k S0 n f r (by omega) (by omega) (by omega) (D++[ofL (a++[10])]) (by rw [List.length_append,List.length_singleton];omega) _ S1 g1
    refine ⟨v',S2,by simpa using k1,fun {R} J0=>?_⟩
    rw [rounds_succ,objline_cons k b l' hl2,hn,g2]
    exact k2 J0
theorem objlines_at {k:Nat} (hk:Many k) (b:ByteArray) (hb:b.size≤100000) (S:List LV):∃v S',RowV S (linesS b) v S'∧∀{R:Type} (K:LV×Unit→List LV→Option R),G.Qaw.fn k (bytesL b,()) S K=K (v,()) S':=by
 unfold Many at hk
 obtain ⟨v,S',h1,h2⟩:=objlines_loop k S (b.size+1) k (toL b) (by rw [toL_len];omega) (by omega) (by rw [toL_len];omega) [] (by rw [toL_len];simp;omega) .nilsl S ⟨Pre.refl _,.inl ⟨rfl,rfl⟩⟩
 exact ⟨v,S',h1,fun {R} K=>h2 K⟩
end
end Go.Lm
set_option maxRecDepth 100000
namespace Go.Lm
section
variable {R:Type}
theorem oslOr_at (id p z n:Nat) (A:Nat→Nat→Nat→Nat→Option R) (B:Option R):oslOr (.osl id p z n) A B=A id p z n:=rfl
theorem idxN_nat {n i:Nat} (h:i<n) (K:Nat→Option R):idxN n (i:Int) K=K i:=by
 unfold idxN
 rw [ifB_pos ⟨by omega,by omega⟩]
 rfl
theorem ldStr_map {L:List ByteArray} {i:Nat} (h:i<L.length) (K:ByteArray→Option R):ldStr (L.map .str) (0+i*1) K=K (L.getD i (bs [])):=by
 unfold ldStr
 have e:Nat.blt (0+i*1) (L.map LV.str).length=true:=Nat.ble_eq_true_of_le (by simp;omega)
 rw [e,ifB_true,Nat.mul_one,Nat.zero_add,map_str_get L i h]
 rfl
theorem ldStr_pre {L:List ByteArray} {xs:List LV} {i:Nat} (h:i<L.length) (K:ByteArray→Option R):ldStr (L.map .str++xs) (0+i*1) K=K (L.getD i (bs [])):=by
 unfold ldStr
 have e:Nat.blt (0+i*1) (L.map LV.str++xs).length=true:=Nat.ble_eq_true_of_le (by simp;omega)
 rw [e,ifB_true,Nat.mul_one,Nat.zero_add,getD_app_lt _ _ _ _ (by rw [List.length_map];exact h),map_str_get L i h]
 rfl
theorem stO_map {L:List ByteArray} {i:Nat} (h:i<L.length) (t:ByteArray) (K:List LV→Option R):stO (L.map .str) (0+i*1) [.str t] K=K ((L.set i t).map .str):=by
 unfold stO
 have e:Nat.ble (0+i*1+[LV.str t].length) (L.map LV.str).length=true:=Nat.ble_eq_true_of_le (by simp;omega)
 rw [e,ifB_true,Nat.mul_one,Nat.zero_add]
 show K ((L.map LV.str).set i (.str t))=_
 rw [List.map_set]
def trN (D:List ByteArray) (i:Nat):List ByteArray:=(D.take i).map trimS++D.drop i
theorem trN_len (D:List ByteArray) (i:Nat):(trN D i).length=D.length:=by simp [trN];omega
theorem trN_get {D:List ByteArray} {i:Nat} (h:i<D.length):(trN D i).getD i (bs [])=D.getD i (bs []):=by
 unfold trN
 simp only [List.getD_eq_getElem?_getD]
 rw [List.getElem?_append_right (by simp;omega)]
 simp [show min i D.length=i by omega,h]
theorem trN_set {D:List ByteArray} {i:Nat} (h:i<D.length):(trN D i).set i (trimS (D.getD i (bs [])))=trN D (i+1):=by
 unfold trN
 rw [List.take_add_one,List.map_append,List.set_append]
 rw [if_neg (by simp;omega)]
 have e:i-((D.take i).map trimS).length=0:=by simp;omega
 rw [e,List.drop_eq_getElem_cons h,List.set_cons_zero]
 simp [List.getD_eq_getElem?_getD,h]
theorem trN_zero (D:List ByteArray):trN D 0=D:=by simp [trN]
theorem trN_all (D:List ByteArray):trN D D.length=D.map trimS:=by simp [trN]
theorem trim_loop (k:Nat) (S0:List LV) (D:List ByteArray) (hD:D.length≤140737488) (hs:∀w∈D,w.size≤140737488355328) (id:Nat) (hid:S0.length≤id):∀(d i n:Nat),D.length=i+d→d<n→∀(Sx:List LV),Pre S0 Sx→Sx.getD id .any = .vec 9 ((trN D i).map .str) →
  ∃S',Pre S0 S'∧S'.getD id .any = .vec 9 ((D.map trimS).map .str)∧∀{R:Type} (J0:LV×Unit→List LV→Option R),rounds (G.Qaz.b0 k J0) n (.osl id 0 1 D.length,(D.length:Int),(i:Int),()) Sx=J0 (.osl id 0 1 D.length,()) S'
 |0,i,0,hi,hn,_,_,_=>by omega
 |d+1,i,0,hi,hn,_,_,_=>by omega
 |0,i,n+1,hi,hn,Sx,hp,hv=>by
  have e:i=D.length:=by omega
  subst e
  rw [trN_all] at hv
  refine ⟨Sx,hp,hv,fun {R} J0=>?_⟩
  rw [rounds_succ]
  unfold G.Qaz.b0
  dsimp only
  rw [lt_nat,ifB_neg (Nat.lt_irrefl _)]
 |d+1,i,n+1,hi,hn,Sx,hp,hv=>by
  have hlt:i<D.length:=by omega
  have hlt2:i<(trN D i).length:=by rw [trN_len];exact hlt
  have hv2:(Sx.set id (.vec 9 ((trN D (i+1)).map .str))).getD id .any = .vec 9 ((trN D (i+1)).map .str):=getD_set_self _ _ _ (getD_lt hv (by simp))
  obtain ⟨S',g1,g2,g3⟩:=trim_loop k S0 D hD hs id hid d (i+1) n (by omega) (by omega) _ (hp.set hid _) hv2
  refine ⟨S',g1,g2,fun {R} J0=>?_⟩
  rw [rounds_succ]
  have hsz:(D.getD i (bs [])).size≤140737488355328:=hs _ (mem_get (z:=bs []) hlt)
  have step:G.Qaz.b0 k J0 (rounds (G.Qaz.b0 k J0) n) (.osl id 0 1 D.length,(D.length:Int),(i:Int),()) Sx=rounds (G.Qaz.b0 k J0) n (.osl id 0 1 D.length,(D.length:Int),((i+1:Nat):Int),()) (Sx.set id (.vec 9 ((trN D (i+1)).map .str))):=by
   generalize rounds (G.Qaz.b0 k J0) n=rec
   unfold G.Qaz.b0
   dsimp only [dup]
   rw [lt_nat,ifB_pos hlt,oslOr_at]
   rw [show Nat.beq 1 1=true from rfl,ifB_true,idxN_nat hlt,vec_at hv,ldStr_map hlt2,trN_get hlt,trim_at k _ hsz,oslOr_at]
   rw [show Nat.beq 1 1=true from rfl,ifB_true,idxN_nat hlt,vec_at hv,stO_map hlt2,trN_set hlt,setS_of,wrap_succ (by omega)]
  rw [step]
  exact g3 J0
def sortedS (D:List ByteArray):List (List UInt8):=(D.map toL).mergeSort fun x y=>decide (x≤y)
theorem bsL_map:∀(D:List ByteArray),bsL (D.map .str)=some (D.map toL)
 |[]=>rfl
 |b::D=>by
  show (bsL (D.map .str)).map (b.data.toList::·)=_
  rw [bsL_map D];rfl
theorem rowAt_vec {S:List LV} {id:Nat} {D:List ByteArray} (h:S.getD id .any = .vec 9 (D.map .str)):rowAt (.osl id 0 1 D.length) S=some (id,.vec 9,D.map toL):=by
 simp only [rowAt,h,bsL_map,List.length_map,if_true]
theorem strsL_of (l:List (List UInt8)):strsL l=(l.map ofL).map .str:=by simp [strsL,ofL]
theorem sort_row (k:Nat) {S:List LV} {id:Nat} {D:List ByteArray} (h:S.getD id .any = .vec 9 (D.map .str)) (hD:D.length≤140737488) (K:Unit→List LV→Option R) :
  H.SortStr.fn k (.osl id 0 1 D.length,()) S K=K () (S.set id (.vec 9 (((sortedS D).map ofL).map .str))):=by
 unfold H.SortStr.fn sortStrF
 dsimp only
 rw [rowAt_vec h]
 dsimp only
 rw [if_pos (by simp;omega),strsL_of]
 rfl
end
end Go.Lm
set_option maxRecDepth 100000
namespace Go.Lm
section
variable {R:Type}
def catL (M:List ByteArray):Nat→ByteArray
 |0=>bs []
 |i+1=>catL M i++(M.getD i (bs [])++bs [10])
theorem catL_size {M:List ByteArray} (h:∀w∈M,w.size≤100000):∀i,i≤M.length→(catL M i).size≤i*100001
 |0,_=>Nat.zero_le _
 |i+1,hi=>by
  have h1:=catL_size h i (by omega)
  have h2:=h _ (mem_get (z:=bs []) (show i<M.length by omega))
  have e1:(bs [10]).size=1:=rfl
  unfold catL
  rw [ByteArray.size_append,ByteArray.size_append,e1]
  omega
theorem cat_loop (k:Nat) (M:List ByteArray) (hM:M.length≤140737488) (hs:∀w∈M,w.size≤100000) (id:Nat) (T:List LV) (S:List LV) (hv:S.getD id .any = .vec 9 (M.map .str++T)):∀(d i n:Nat),M.length=i+d→d<n→∀{R:Type} (J2:List LV×Unit→List LV→Option R),
  rounds (G.Qaz.b1 k J2) n (bytesL (catL M i),.osl id 0 1 M.length,(M.length:Int),(i:Int),()) S=J2 (bytesL (catL M M.length),()) S
 |0,i,0,hi,hn,_,_=>by omega
 |d+1,i,0,hi,hn,_,_=>by omega
 |0,i,n+1,hi,hn,_,J2=>by
  have e:i=M.length:=by omega
  subst e
  rw [rounds_succ]
  unfold G.Qaz.b1
  dsimp only
  rw [lt_nat,ifB_neg (Nat.lt_irrefl _)]
 |d+1,i,n+1,hi,hn,R,J2=>by
  have hlt:i<M.length:=by omega
  have ih:=cat_loop k M hM hs id T S hv d (i+1) n (by omega) (by omega) J2
  rw [rounds_succ]
  have hsz:=hs _ (mem_get (z:=bs []) hlt)
  have hc:=catL_size hs i (by omega)
  have hm:i*100001≤140737488*100001:=Nat.mul_le_mul (by omega) (Nat.le_refl _)
  have e1:(bs [10]).size=1:=rfl
  have step:G.Qaz.b1 k J2 (rounds (G.Qaz.b1 k J2) n) (bytesL (catL M i),.osl id 0 1 M.length,(M.length:Int),(i:Int),()) S=rounds (G.Qaz.b1 k J2) n (bytesL (catL M (i+1)),.osl id 0 1 M.length,(M.length:Int),((i+1:Nat):Int),()) S:=by
   generalize rounds (G.Qaz.b1 k J2) n=rec
   unfold G.Qaz.b1
   dsimp only
   rw [lt_nat,ifB_pos hlt,oslOr_at,show Nat.beq 1 1=true from rfl,ifB_true,idxN_nat hlt,vec_at hv,ldStr_pre hlt,cat_le (by omega),app_le (by rw [bytesL_len,bytesL_len,ByteArray.size_append];omega) (by rw [bytesL_len,bytesL_len,ByteArray.size_append];omega),bytesL_app,wrap_succ (by omega)]
   rfl
  rw [step]
  exact ih
theorem compactS_mem {ss:List (List UInt8)} {w:List UInt8} (h:w∈compactS ss):w∈ss:=by
 unfold compactS Lib.compactUpTo at h
 obtain ⟨i,hi,rfl⟩:=List.mem_map.1 h
 have:=(List.mem_filter.1 hi).1
 rw [List.mem_range] at this
 rw [getElem!_pos ss.toArray i this]
 simp
theorem compactS_len (ss:List (List UInt8)):(compactS ss).length≤ss.length:=Lib.compact_length_le ss
def sortM (b:ByteArray):List ByteArray:=(compactS (sortedS ((linesS b).map trimS))).map ofL
def sortLS (b:ByteArray):ByteArray:=catL (sortM b) (sortM b).length
theorem map_toL_ofL (l:List (List UInt8)):(l.map ofL).map toL=l:=by
 rw [List.map_map];exact List.map_id'' (fun _=>rfl) l
theorem sortM_size {b:ByteArray} (hb:b.size≤100000):∀w∈sortM b,w.size≤100000:=fun w hw=>by
 obtain ⟨l,hl,rfl⟩:=List.mem_map.1 hw
 have h1:=compactS_mem hl
 unfold sortedS at h1
 rw [List.mem_mergeSort] at h1
 obtain ⟨x,hx,rfl⟩:=List.mem_map.1 h1
 obtain ⟨y,hy,rfl⟩:=List.mem_map.1 hx
 have h2:=linesS_size hy
 have h3:=trimS_size y
 show (ofL (toL (trimS y))).size≤_
 rw [ofL_toL];omega
theorem sortM_len (b:ByteArray):(sortM b).length≤b.size:=by
 unfold sortM
 rw [List.length_map]
 have:=compactS_len (sortedS ((linesS b).map trimS))
 have h2:(sortedS ((linesS b).map trimS)).length=(linesS b).length:=by simp [sortedS,List.length_mergeSort]
 have:=linesS_len b
 omega
theorem sortLS_size {b:ByteArray} (hb:b.size≤100000):(sortLS b).size≤140737488355328:=by
 have h1:=catL_size (sortM_size hb) (sortM b).length (Nat.le_refl _)
 have h2:=sortM_len b
 have h3:(sortM b).length*100001≤100000*100001:=Nat.mul_le_mul (by omega) (Nat.le_refl _)
 unfold sortLS
 omega
theorem sortLines0 {k:Nat} (hk:Many k) (b:ByteArray) (hb:b.size≤100000) (S:List LV):∃G',∀{R:Type} (K:List LV×Unit→List LV→Option R),G.Qaz.fn0 k (bytesL b,()) S K=K (bytesL (sortLS b),()) (S++G'):=by
 have hk':=hk
 unfold Many at hk'
 obtain ⟨v,S1,⟨hp,hv⟩,h2⟩:=objlines_at hk b hb S
 have hll:=linesS_len b
 rcases hv with ⟨he,rfl⟩|⟨id,hid,rfl,hvec⟩
 ·refine ⟨S1.drop S.length,fun {R} K=>?_⟩
  rw [←hp.split]
  have hM:sortM b=[]:=List.eq_nil_of_length_eq_zero (by
   have h1:(sortedS ((linesS b).map trimS)).length=0:=by rw [he];simp [sortedS]
   have h3:=compactS_len (sortedS ((linesS b).map trimS))
   unfold sortM
   rw [List.length_map];omega)
  have hS:sortLS b=bs []:=by unfold sortLS;rw [hM];rfl
  rw [hS]
  obtain ⟨n,rfl⟩:∃n,k=n+1:=⟨k-1,by omega⟩
  unfold G.Qaz.fn0
  rw [h2]
  rfl
 ·have hs2:∀w∈linesS b,w.size≤140737488355328:=fun w hw=>by have:=linesS_size hw;omega
  obtain ⟨S2,hp2,hv2,g3⟩:=trim_loop k S (linesS b) (by omega) hs2 id hid (linesS b).length 0 k (by omega) (by omega) S1 hp (by rw [trN_zero];exact hvec)
  have hlen:((linesS b).map trimS).length=(linesS b).length:=List.length_map _
  have hv3:(S2.set id (.vec 9 (((sortedS ((linesS b).map trimS)).map ofL).map .str))).getD id .any = .vec 9 (((sortedS ((linesS b).map trimS)).map ofL).map .str):=getD_set_self _ _ _ (getD_lt hv2 (by simp))
  have hlen3:((sortedS ((linesS b).map trimS)).map ofL).length=(linesS b).length:=by simp [sortedS,List.length_mergeSort]
  let S3:=S2.set id (.vec 9 (((sortedS ((linesS b).map trimS)).map ofL).map .str))
  have hcomp:∃T,∀{R:Type} (K:LV×Unit→List LV→Option R),H.CompactStr.fn k (.osl id 0 1 (linesS b).length,()) S3 K=K (.osl id 0 1 (sortM b).length,()) (S3.set id (.vec 9 ((sortM b).map .str++T))):=by
   refine ⟨strsL (List.replicate ((sortedS ((linesS b).map trimS)).length-(sortM b).length) []),fun {R} K=>?_⟩
   rw [←hlen3]
   unfold H.CompactStr.fn compactStrF
   dsimp only
   rw [rowAt_vec hv3]
   dsimp only
   rw [map_toL_ofL,if_pos (by simp [sortedS,List.length_mergeSort];omega)]
   have e:∀(x y:List (List UInt8)),strsL (x++y)=strsL x++strsL y:=fun x y=>by simp [strsL]
   rw [e,strsL_of (compactS _)]
   have e2:(compactS (sortedS ((linesS b).map trimS))).length=(sortM b).length:=by unfold sortM;rw [List.length_map]
   rw [e2]
   rfl
  obtain ⟨T,hcomp⟩:=hcomp
  let S4:=S3.set id (.vec 9 ((sortM b).map .str++T))
  have hlt3:id<S3.length:=getD_lt hv3 (by simp)
  have hv4:S4.getD id .any = .vec 9 ((sortM b).map .str++T):=getD_set_self _ _ _ hlt3
  have hp4:Pre S S4:=(hp2.set hid _).set hid _
  have hml:=sortM_len b
  refine ⟨S4.drop S.length,fun {R} K=>?_⟩
  rw [←hp4.split]
  unfold G.Qaz.fn0
  rw [h2]
  show rounds (G.Qaz.b0 k _) k (.osl id 0 1 (linesS b).length,((linesS b).length:Int),0,()) S1=_
  refine (g3 _).trans ?_
  show H.SortStr.fn k (.osl id 0 1 (linesS b).length,()) S2 _=_
  have hsort:=fun (K:Unit→List LV→Option R)=>sort_row k hv2 (by rw [hlen];omega) K
  rw [hlen] at hsort
  rw [hsort]
  show H.CompactStr.fn k (.osl id 0 1 (linesS b).length,()) S3 _=_
  rw [hcomp]
  show rounds (G.Qaz.b1 k K) k (bytesL (catL (sortM b) 0),.osl id 0 1 (sortM b).length,((sortM b).length:Int),((0:Nat):Int),()) S4=_
  exact cat_loop k (sortM b) (by omega) (sortM_size hb) id T S4 hv4 (sortM b).length 0 k (by omega) (by omega) K
theorem noId_bytesL (n:Nat) (b:ByteArray):(bytesL b).all (noId n)=true:=by
 refine List.all_eq_true.2 fun x hx=>?_
 obtain ⟨y,_,rfl⟩:=List.mem_map.1 hx
 cases n<;>rfl
theorem sortLines_at {k:Nat} (hk:Many k) (b:ByteArray) (hb:b.size≤100000) (S:List LV) (K:List LV×Unit→List LV→Option R):G.Qaz.fn k (bytesL b,()) S K=K (bytesL (sortLS b),()) S:=by
 obtain ⟨G',h⟩:=sortLines0 hk b hb S
 exact popK_at (h _) (noId_bytesL _ _)
end
end Go.Lm
set_option maxRecDepth 100000
namespace Go.Lm
section
variable {R:Type}
def repL (m r:Bs):Nat→Bs→Bs
 |0,l=>l
 |n+1,l=>l.take (Lib.index l m).toNat++(r++repL m r n (l.drop ((Lib.index l m).toNat+m.length)))
def repS (b m r:ByteArray):ByteArray:=ofL (repL (toL m) (toL r) (Lib.count (toL b) (toL m)) (toL b))
theorem countFrom_pos {m:Bs} {f:Nat} {l:Bs} (h:0<Lib.countFrom m f l):∃g i:Nat,f=g+1∧Lib.index l m=i∧i+m.length≤l.length∧Lib.countFrom m f l=1+Lib.countFrom m g (l.drop (i+m.length)):=by
 cases f with
 |zero=>cases h
 |succ g =>
  have e0:Lib.countFrom m (g+1) l=if Lib.index l m == -1 then 0 else 1+Lib.countFrom m g (l.drop ((Lib.index l m).toNat+m.length)):=rfl
  rw [e0] at h ⊢
  by_cases hx:Lib.index l m = -1
  ·rw [hx] at h;simp at h
  ·have h1:=Lib.index_ge l m
   have h2:=Lib.index_room l m (by omega)
   refine ⟨g,(Lib.index l m).toNat,rfl,by omega,by omega,?_⟩
   rw [if_neg (by simpa using hx)]
theorem repL_len {m r:Bs}:∀(f:Nat) (l:Bs),((repL m r (Lib.countFrom m f l) l).length:Int)=l.length+(Lib.countFrom m f l:Int)*((r.length:Int)-m.length)
 |0,l=>by simp [Lib.countFrom,repL]
 |f+1,l=>by
  by_cases h:0<Lib.countFrom m (f+1) l
  ·obtain ⟨g,i,hg,hi,hr,hc⟩:=countFrom_pos h
   obtain rfl:f=g:=by omega
   have ih:=repL_len (m:=m) (r:=r) f (l.drop (i+m.length))
   rw [hc,Nat.add_comm 1]
   unfold repL
   rw [hi]
   simp only [List.length_append,List.length_take,List.length_drop,Int.toNat_natCast] at ih ⊢
   rw [Int.natCast_add,Int.natCast_add,ih,Int.natCast_add,Int.add_mul]
   omega
  ·have h0:Lib.countFrom m (f+1) l=0:=by omega
   rw [h0]
   simp [repL]
def FillAt (S:List LV) (id:Nat) (D:Bs) (n:Nat):Prop:=S.getD id .any = .obj 5 (bL D++List.replicate (n-D.length) (.int .u8 0))∧D.length≤n
theorem setFrom_fill:∀(vs pre zs:List LV),vs.length≤zs.length→setFrom (pre++zs) pre.length vs=pre++vs++zs.drop vs.length
 |[],pre,zs,_=>by simp [setFrom]
 |v::vs,pre,[],h=>by simp at h
 |v::vs,pre,z::zs,h=>by
  have e:(pre++z::zs).set pre.length v=(pre++[v])++zs:=by simp
  have ih:=setFrom_fill vs (pre++[v]) zs (by simpa using h)
  unfold setFrom
  rw [e]
  simpa using ih
def fillV (D:Bs) (n:Nat):LV:=.obj 5 (bL D++List.replicate (n-D.length) (.int .u8 0))
theorem flatC_bL (l:Bs):flatC 1 (bL l)=bL l:=by
 unfold flatC
 rw [show Nat.beq 1 1=true from rfl]
 dsimp only
 unfold bL
 rw [List.map_map]
 exact List.map_congr_left fun b _=>rfl
theorem copy_at {S:List LV} {id n:Nat} {D e:Bs} (h:FillAt S id D n) (he:D.length+e.length≤n) (K:List LV→Option R) :
  (objAt S id fun ty c=>stO c (0+((D.length:Nat):Int).toNat*1) (flatC 1 (bL e)) fun c'=>setS (S.set id (ty c')) K)=K (S.set id (fillV (D++e) n)):=by
 have hb:(bL D).length=D.length:=bL_len D
 have hb2:(bL e).length=e.length:=bL_len e
 unfold objAt
 rw [h.1]
 dsimp only
 unfold stO setS
 rw [flatC_bL,show 0+((D.length:Nat):Int).toNat*1=(bL D).length by rw [hb];simp]
 have hle:(bL e).length≤(List.replicate (n-D.length) (LV.int .u8 0)).length:=by rw [List.length_replicate,hb2];omega
 rw [show Nat.ble ((bL D).length+(bL e).length) (bL D++List.replicate (n-D.length) (LV.int .u8 0)).length=true from Nat.ble_eq_true_of_le (by rw [List.length_append];omega),ifB_true,setFrom_fill _ _ _ hle]
 have e2:bL D++bL e++(List.replicate (n-D.length) (LV.int .u8 0)).drop (bL e).length=bL (D++e)++List.replicate (n-(D++e).length) (LV.int .u8 0):=by
  rw [List.drop_replicate,hb2,List.length_append,Nat.sub_add_eq]
  simp [bL]
 rw [e2]
 rfl
theorem FillAt.set {S:List LV} {id n:Nat} {D D':Bs} (h:FillAt S id D n) (hD:D'.length≤n):FillAt (S.set id (fillV D' n)) id D' n :=
 ⟨getD_set_self _ _ _ (getD_lt h.1 (by simp)),hD⟩
end
end Go.Lm
set_option maxRecDepth 100000
namespace Go.Lm
section
variable {R:Type}
theorem byteB_bL (l:Bs):byteB (bL l)=true:=by
 unfold byteB
 refine List.all_eq_true.2 fun x hx=>?_
 obtain ⟨b,_,rfl⟩:=List.mem_map.1 hx
 have:=b.toNat_lt
 simp only [decide_eq_true_eq]
 omega
theorem bindex_at (k:Nat) {S:List LV} (hn:HasNum S H.maxG) {l m:Bs} (hl:l.length<4294967281) (hm:1≤m.length) (K:Int×Unit→List LV→Option R):H.BIndex.fn k (bL l,bL m,()) S K=K (Lib.index l m,()) S:=by
 have hok:H.BIndexOk S (bL l) (bL m):=⟨hn,byteB_bL _,byteB_bL _,by rw [bL_len];exact hl,by rw [bL_len];exact hm⟩
 have e:(Classical.propDecidable (H.BIndexOk S (bL l) (bL m))).decide=true:=@decide_eq_true _ (Classical.propDecidable _) hok
 unfold H.BIndex.fn bIndexF
 dsimp only
 rw [e]
 unfold bL
 rw [strL_hex,strL_hex]
theorem bcount_at (k:Nat) {S:List LV} (hn:HasNum S H.maxG) {l m:Bs} (hl:l.length<4294967281) (hm:1≤m.length) (K:Int×Unit→List LV→Option R):H.BCount.fn k (bL l,bL m,()) S K=K ((Lib.count l m:Nat),()) S:=by
 have hok:H.BIndexOk S (bL l) (bL m):=⟨hn,byteB_bL _,byteB_bL _,by rw [bL_len];exact hl,by rw [bL_len];exact hm⟩
 have e:(Classical.propDecidable (H.BIndexOk S (bL l) (bL m))).decide=true:=@decide_eq_true _ (Classical.propDecidable _) hok
 unfold H.BCount.fn bCountF
 dsimp only
 rw [e]
 unfold bL
 rw [strL_hex,strL_hex]
theorem HasNum.setF {S:List LV} {g id n:Nat} {D:Bs} (h:HasNum S g) (hf:FillAt S id D n) (v:LV):HasNum (S.set id v) g:=by
 obtain ⟨i,e,fz,m,hi⟩:=h
 refine ⟨i,e,fz,m,?_⟩
 rw [getD_set_other _ _ (fun e=>by subst e;rw [hf.1] at hi;cases hi)]
 exact hi
theorem slL_mid {l:Bs} {i j:Nat} (h:i≤j) (h2:j≤l.length) (K:List LV→Option R):slL (bL l) (i:Int) (j:Int) K=K (bL ((l.take j).drop i)):=by
 unfold slL
 rw [ifB_pos ⟨by omega,by omega,by rw [bL_len];omega⟩]
 simp [bL]
theorem inN {a b:Nat} (h:a≤b):(Nat.beq 1 1&&Nat.blt 0 1&&decide ((0:Int)≤(a:Int)∧(a:Int)≤(b:Int)∧(b:Int)≤(b:Int)))=true:=by
 rw [show (Nat.beq 1 1&&Nat.blt 0 1)=true from rfl,Bool.true_and]
 exact decide_eq_true ⟨by omega,by omega,by omega⟩
theorem room_at {n w e:Nat} (h:w+e≤n):Nat.ble e (((n:Nat):Int).toNat-((w:Nat):Int).toNat)=true:=Nat.ble_eq_true_of_le (by simp;omega)
theorem wrap_add {a b:Nat} (h:a+b≤140737488355328):IntKind.wrap .i64 ((a:Int)+(b:Int))=((a+b:Nat):Int):=by
 rw [wrap_id (by omega) (by omega)];omega
theorem rep_step (k:Nat) (s m r:Bs) (hs:s.length≤1000000) (hm:1≤m.length) (hm2:m.length≤1000000) (hr:r.length≤1000000) {id n:Nat} (hn:n≤1000000000000) {S:List LV} (hg:HasNum S H.maxG) {D:Bs} (hf:FillAt S id D n) {st c i j:Nat} (hic:i<c) (hc:c≤1000000) (hst:st≤s.length)
  (hx:Lib.index (s.drop st) m=(j:Int)) (hj:j+m.length≤(s.drop st).length) (hroom:D.length+(j+r.length)≤n)
  (J0:List LV×(Nat×Nat×Nat)×Int×Int×Unit→List LV→Option R) (rec:List LV×List LV×List LV×(Nat×Nat×Nat)×Int×Int×Int×Int×Unit→List LV→Option R) :
  G.Qby.b0 k J0 rec (bL s,bL m,bL r,(id,0,n),(D.length:Int),(st:Int),(c:Int),(i:Int),()) S
   = rec (bL s,bL m,bL r,(id,0,n),((D++(s.drop st).take j++r).length:Int),((st+j+m.length:Nat):Int),(c:Int),((i+1:Nat):Int),()) ((S.set id (fillV (D++(s.drop st).take j) n)).set id (fillV (D++(s.drop st).take j++r) n)):=by
 have hd:(s.drop st).length=s.length-st:=List.length_drop
 have ht:((s.drop st).take j).length=j:=by rw [List.length_take];omega
 have hD:(D++(s.drop st).take j).length=D.length+j:=by rw [List.length_append,ht]
 have hf2:FillAt (S.set id (fillV (D++(s.drop st).take j) n)) id (D++(s.drop st).take j) n:=hf.set (by omega)
 have e1:(s.take (st+j)).drop st=(s.drop st).take j:=by rw [List.drop_take];congr 1;omega
 unfold G.Qby.b0
 dsimp only
 rw [lt_nat]
 unfold G.Qby.q11
 dsimp only
 rw [ifB_pos hic]
 unfold G.Qby.q12
 dsimp only
 rw [bL_len s,show ((s.length:Nat):Int)=(((bL s).length:Nat):Int) by rw [bL_len],slL_drop (by rw [bL_len];exact hst),bL_drop,bindex_at k hg (by omega) hm,hx]
 dsimp only
 rw [wrap_add (by omega)]
 unfold G.Qby.q13
 dsimp only
 rw [inN (by omega),ifB_true,slL_mid (by omega) (by omega),e1,show (Nat.beq 1 1&&Nat.beq 1 1)=true from rfl,ifB_true,bL_len,ht,room_at (by omega),ifB_true,copy_at hf (by omega),wrap_add (by omega),←hD]
 unfold G.Qby.q14
 dsimp only
 rw [inN (by omega),ifB_true,show (Nat.beq 1 1&&Nat.beq 1 1)=true from rfl,ifB_true,bL_len,room_at (by omega),ifB_true,copy_at hf2 (by omega),wrap_add (by omega)]
 unfold G.Qby.q5
 dsimp only
 rw [bL_len,wrap_add (by omega),wrap_succ (by omega),show (D++(s.drop st).take j++r).length=(D++(s.drop st).take j).length+r.length from List.length_append]
end
end Go.Lm
set_option maxRecDepth 100000
namespace Go.Lm
section
variable {R:Type}
theorem rep_loop (k:Nat) (S0:List LV) (s m r:Bs) (hs:s.length≤1000000) (hm:1≤m.length) (hm2:m.length≤1000000) (hr:r.length≤1000000) {id n:Nat} (hid:S0.length≤id) (hn:n≤1000000000000) {c:Nat} (hc:c≤1000000) :
  ∀(d i f g:Nat) (st:Nat) (D:Bs) (S:List LV),c=i+d→d<f→d=Lib.countFrom m g (s.drop st)→Pre S0 S→FillAt S id D n→HasNum S H.maxG→st≤s.length→D.length+(repL m r d (s.drop st)).length≤n →
  ∃(D':Bs) (st':Nat) (S':List LV),Pre S0 S'∧FillAt S' id D' n∧HasNum S' H.maxG∧st'≤s.length∧D'++s.drop st'=D++repL m r d (s.drop st) ∧
   ∀{R:Type} (J0:List LV×(Nat×Nat×Nat)×Int×Int×Unit→List LV→Option R),rounds (G.Qby.b0 k J0) f (bL s,bL m,bL r,(id,0,n),(D.length:Int),(st:Int),(c:Int),(i:Int),()) S=J0 (bL s,(id,0,n),(D'.length:Int),(st':Int),()) S'
 |_,i,0,_,st,D,S,_,hf,_,_,_,_,_,_=>absurd hf (Nat.not_lt_zero _)
 |0,i,f+1,g,st,D,S,hi,hf,_,hp,hv,hg,hst,hroom=>by
  refine ⟨D,st,S,hp,hv,hg,hst,rfl,fun {R} J0=>?_⟩
  have e:i=c:=by omega
  subst e
  rw [rounds_succ]
  unfold G.Qby.b0
  dsimp only
  rw [lt_nat]
  unfold G.Qby.q11
  dsimp only
  rw [ifB_neg (Nat.lt_irrefl _)]
 |d+1,i,f+1,g,st,D,S,hi,hf,hd,hp,hv,hg,hst,hroom=>by
  obtain ⟨g',j,_,hj,hjr,hcf⟩:=countFrom_pos (m:=m) (f:=g) (l:=s.drop st) (by omega)
  have hdl:(s.drop st).length=s.length-st:=List.length_drop
  have hdd:(s.drop st).drop (j+m.length)=s.drop (st+j+m.length):=by rw [List.drop_drop];congr 1;omega
  have eR:repL m r (d+1) (s.drop st)=(s.drop st).take j++(r++repL m r d (s.drop (st+j+m.length))):=by
   show (s.drop st).take (Lib.index (s.drop st) m).toNat++(r++repL m r d ((s.drop st).drop ((Lib.index (s.drop st) m).toNat+m.length)))=_
   rw [hj,Int.toNat_natCast,hdd]
  have ht:((s.drop st).take j).length=j:=by rw [List.length_take];omega
  have hlen:(repL m r (d+1) (s.drop st)).length=j+(r.length+(repL m r d (s.drop (st+j+m.length))).length):=by
   rw [eR,List.length_append,List.length_append,ht]
  have hv1:=hv.set (D':=D++(s.drop st).take j) (by rw [List.length_append,ht];omega)
  have hv2:=hv1.set (D':=D++(s.drop st).take j++r) (by rw [List.length_append,List.length_append,ht];omega)
  have hg2:=(hg.setF hv (fillV (D++(s.drop st).take j) n)).setF hv1 (fillV (D++(s.drop st).take j++r) n)
  obtain ⟨D',st',S',g1,g2,g3,g4,g5,g6⟩:=rep_loop k S0 s m r hs hm hm2 hr hid hn hc d (i+1) f g' (st+j+m.length) _ _ (by omega) (by omega) (by rw [←hdd];omega) ((hp.set hid _).set hid _) hv2 hg2 (by omega) (by rw [List.length_append,List.length_append,ht];omega)
  refine ⟨D',st',S',g1,g2,g3,g4,?_,fun {R} J0=>?_⟩
  ·rw [g5,eR];simp only [List.append_assoc]
  ·rw [rounds_succ,rep_step k s m r hs hm hm2 hr hn hg hv (by omega) hc hst hj hjr (by omega)]
   exact g6 J0
theorem countFrom_le {m:Bs} (hm:1≤m.length):∀(f:Nat) (l:Bs),Lib.countFrom m f l≤l.length
 |0,l=>Nat.zero_le _
 |f+1,l=>by
  by_cases h:0<Lib.countFrom m (f+1) l
  ·obtain ⟨g,i,hg,hi,hr,hc⟩:=countFrom_pos h
   have ih:=countFrom_le hm g (l.drop (i+m.length))
   rw [List.length_drop] at ih
   omega
  ·omega
theorem frz_at (k:Nat) {S:List LV} {id n:Nat} {D:Bs} (h:FillAt S id D n) (hD:D.length=n) (hn:n≤1000000000000) (K:List LV×Unit→List LV→Option R):G.Qby.q9 k K ((id,0,n),(n:Int),()) S=K (bL D,()) (S.set id .any):=by
 have e:bL D++List.replicate (n-D.length) (LV.int .u8 0)=bL D:=by rw [hD,Nat.sub_self];simp
 unfold G.Qby.q9
 dsimp only
 rw [show (Nat.beq 1 1&&Nat.blt 0 1&&decide ((0:Int)≤0∧(0:Int)≤(n:Int)∧(n:Int)≤((n:Nat):Int)))=true by rw [show (Nat.beq 1 1&&Nat.blt 0 1)=true from rfl,Bool.true_and];exact decide_eq_true ⟨by omega,by omega,by omega⟩,ifB_true]
 unfold objAt
 rw [h.1,e]
 dsimp only
 have hb:(bL D).length=n:=by rw [bL_len,hD]
 rw [show (Nat.beq (0+((0:Int)).toNat*1) 0&&Nat.beq ((((n:Nat):Int).toNat-((0:Int)).toNat)*1) (bL D).length&&Nat.blt 0 1&&Nat.ble (((n:Nat):Int).toNat-((0:Int)).toNat) 9223372036854775807)=true by
  rw [hb]
  simp only [Int.toNat_natCast,Int.toNat_zero,Nat.sub_zero,Nat.mul_one,Nat.beq_refl,Bool.true_and,Nat.zero_add]
  rw [show Nat.blt 0 1=true from rfl,Bool.true_and]
  exact Nat.ble_eq_true_of_le (by omega),ifB_true]
 have hc:chunks 1 (((n:Nat):Int).toNat-((0:Int)).toNat) (bL D)=bL D:=by
  unfold chunks
  rw [show Nat.beq 1 1=true from rfl]
  dsimp only
  simp [bL,dupL]
 rw [hc]
 rfl
end
end Go.Lm
set_option maxRecDepth 100000
namespace Go.Lm
section
variable {R:Type}
theorem fill_new (S:List LV) (n:Nat):FillAt (S++[.obj 5 (zeros n [.int .u8 0])]) S.length [] n:=by
 refine ⟨?_,Nat.zero_le _⟩
 have e:zeros n [LV.int IntKind.u8 0]=List.replicate n (LV.int IntKind.u8 0):=by
  unfold zeros
  induction n with
  |zero=>rfl
  |succ n ih=>rw [List.replicate_succ,List.flatten_cons,ih];rfl
 rw [e,List.getD_eq_getElem?_getD,List.getElem?_append_right (Nat.le_refl _),Nat.sub_self]
 rfl
theorem mkN_b {n:Nat} (h:n≤140737488355328) (K:Nat→Option R):mkN (n:Int) 1 K=K n:=by
 unfold mkN
 rw [ifB_pos ⟨by omega,by omega,by omega⟩,Int.toNat_natCast]
theorem replace0 {k:Nat} (hk:Many k) (s m r:Bs) (hs:s.length≤100000) (hm:1≤m.length) (hm2:m.length≤100000) (hr:r.length≤100000) (S:List LV) (hg:HasNum S H.maxG) :
  ∃G',∀{R:Type} (K:List LV×Unit→List LV→Option R),G.Qby.fn0 k (bL s,bL m,bL r,(-1:Int),()) S K=K (bL (repL m r (Lib.count s m) s),()) (S++G'):=by
 unfold Many at hk
 have hcl:Lib.count s m≤s.length:=countFrom_le hm _ s
 have hlen:((repL m r (Lib.count s m) s).length:Int)=s.length+(Lib.count s m:Int)*((r.length:Int)-m.length):=repL_len _ s
 generalize hcnt:Lib.count s m=c at hcl hlen ⊢
 have hb:(repL m r c s).length≤10000100000:=by
  have h1:(c:Int)*((r.length:Int)-m.length)≤100000*100000:=by
   have h2:(c:Int)*((r.length:Int)-m.length)≤(c:Int)*100000:=Int.mul_le_mul_of_nonneg_left (by omega) (by omega)
   omega
  omega
 have hp0:(c:Int)*((r.length:Int)-m.length)=((repL m r c s).length:Int)-s.length:=by omega
 have start:∀{R:Type} (K:List LV×Unit→List LV→Option R),G.Qby.fn0 k (bL s,bL m,bL r,(-1:Int),()) S K=G.Qby.q17 k K (bL s,bL m,bL r,(-1:Int),(c:Int),()) S:=fun {R} K=>by
  unfold G.Qby.fn0
  dsimp only
  rw [show ((-1:Int) != 0)=true from rfl,ifB_true,bcount_at k hg (by omega) hm,hcnt]
 by_cases h0:c=0
 ·subst h0
  refine ⟨[],fun {R} K=>?_⟩
  rw [start,List.append_nil]
  unfold G.Qby.q17 G.Qby.q18
  dsimp only
  rw [show (((0:Nat):Int)==0)=true from rfl,ifB_true,app_le (by rw [bL_len];simp;omega) (by rw [bL_len];simp;omega),List.nil_append]
  rfl
 ·have hw:IntKind.wrap .i64 ((s.length:Int)+IntKind.wrap .i64 ((c:Int)*IntKind.wrap .i64 ((r.length:Int)-(m.length:Int))))=((repL m r c s).length:Int):=by
   rw [wrap_id (n:=(r.length:Int)-(m.length:Int)) (by omega) (by omega),hp0,wrap_id (n:=((repL m r c s).length:Int)-s.length) (by omega) (by omega),wrap_id (by omega) (by omega)]
   omega
  obtain ⟨D',st',S',g1,g2,g3,g4,g5,g6⟩:=rep_loop k S s m r (by omega) hm (by omega) (by omega) (id:=S.length) (n:=(repL m r c s).length) (Nat.le_refl _) (by omega) (c:=c) (by omega) c 0 k (s.length+1) 0 [] (S++[.obj 5 (zeros (repL m r c s).length [.int .u8 0])]) (by omega) (by omega) (by rw [List.drop_zero,←hcnt];rfl) (Pre.app _ _) (fill_new _ _) (hg.app _) (Nat.zero_le _) (by rw [List.drop_zero];simp)
  rw [List.drop_zero,List.nil_append] at g5
  have hl5:D'.length+(s.length-st')=(repL m r c s).length:=by rw [←g5,List.length_append,List.length_drop]
  have hdl:(s.drop st').length=s.length-st':=List.length_drop
  have g7:=g2.set (D':=D'++s.drop st') (by rw [List.length_append,hdl];omega)
  have hp:Pre S ((S'.set S.length (fillV (D'++s.drop st') (repL m r c s).length)).set S.length .any):=(g1.set (Nat.le_refl _) _).set (Nat.le_refl _) _
  refine ⟨((S'.set S.length (fillV (D'++s.drop st') (repL m r c s).length)).set S.length .any).drop S.length,fun {R} K=>?_⟩
  rw [←hp.split,start]
  unfold G.Qby.q17 G.Qby.q18
  dsimp only
  rw [show (((c:Nat):Int)==0)=false by rw [beq_eq_false_iff_ne];omega,ifB_false]
  unfold G.Qby.q19
  dsimp only
  rw [show decide ((-1:Int)<0)=true from rfl,ifB_true]
  unfold G.Qby.q10
  dsimp only
  rw [bL_len,bL_len,bL_len,hw,decide_eq_true rfl,ifB_true,mkN_b (by omega)]
  unfold newObj G.Qby.q0 G.Qby.q1 G.Qby.q2 G.Qby.q3
  dsimp only
  rw [bL_len,ifB_pos (show ((m.length:Nat):Int)>0 by omega)]
  unfold G.Qby.q4
  try dsimp only
  refine (g6 _).trans ?_
  unfold G.Qby.q8
  dsimp only
  rw [inN g2.2,ifB_true,bL_len s,show ((s.length:Nat):Int)=(((bL s).length:Nat):Int) by rw [bL_len],slL_drop (by rw [bL_len];exact g4),bL_drop,show (Nat.beq 1 1&&Nat.beq 1 1)=true from rfl,ifB_true,bL_len,room_at (by omega),ifB_true,copy_at g2 (by omega),wrap_add (by omega),hdl,hl5,frz_at k g7 (by rw [g5]) (by omega),g5]
theorem noId_bL (n:Nat) (l:Bs):(bL l).all (noId n)=true:=by
 refine List.all_eq_true.2 fun x hx=>?_
 obtain ⟨y,_,rfl⟩:=List.mem_map.1 hx
 cases n<;>rfl
theorem replaceAll_at {k:Nat} (hk:Many k) (s m r:ByteArray) (hs:s.size≤100000) (hm:1≤m.size) (hm2:m.size≤100000) (hr:r.size≤100000) (S:List LV) (hg:HasNum S H.maxG) (K:List LV×Unit→List LV→Option R) :
  G.Qbz.fn k (bytesL s,bytesL m,bytesL r,()) S K=K (bytesL (repS s m r),()) S:=by
 obtain ⟨G',h⟩:=replace0 hk (toL s) (toL m) (toL r) (by rw [toL_len];exact hs) (by rw [toL_len];exact hm) (by rw [toL_len];exact hm2) (by rw [toL_len];exact hr) S hg
 unfold G.Qbz.fn
 exact popK_at (h _) (noId_bL _ _)
end
end Go.Lm
set_option maxRecDepth 100000
namespace Go.Lm
section
variable {R:Type}
structure ES where
 wk:Wk
 out:ByteArray
 reads:Nat
def incS (rec:ByteArray→ES→Int×ES):List ByteArray→ES→Int×ES
 |[],e=>(0,e)
 |l::ls,e=>cond ((inclS (trimS l)).2&&isPathS (inclS (trimS l)).1)
   (cond ((rec (inclS (trimS l)).1 e).1==0) (incS rec ls (rec (inclS (trimS l)).1 e).2) (rec (inclS (trimS l)).1 e))
   (cond (decide (100000<(e.out++endedS l).size)) (5,{ e with out:=e.out++endedS l }) (incS rec ls { e with out:=e.out++endedS l }))
def openS (rec:ByteArray→ES→Int×ES) (e:ES):Option ByteArray×Wk→Int×ES
 | (none,w)=>(2,{ e with wk:=w })
 | (some b,w)=>cond (decide (10000<e.reads+1)) (4,{ e with wk:=w,reads:=e.reads+1 }) (incS rec (linesS b) { e with wk:=w,reads:=e.reads+1 })
def expS:Nat→List ByteArray→ByteArray→ES→Int×ES
 |0,_,_,e=>(4,e)
 |n+1,ch,p,e=>cond (ch.any (strEq p)||decide (30<ch.length)) (4,e) (openS (expS n (ch++[p])) e (readS e.wk p))
def exC (I:Ids) (v:LV) (n:Nat):LV:=.obj 152 [.ptr I.w 0,v,.int .i64 n]
def OwnV (v:LV) (out:ByteArray):Prop:=v = .own 5 1 (bytesL out)∨(v = .nilsl∧out=bs [])
theorem OwnV.at {v:LV} {out:ByteArray} (h:OwnV v out) (K:List LV→Option R):asOwn 5 1 v K=K (bytesL out):=by
 rcases h with rfl|⟨rfl,rfl⟩
 ·rfl
 ·rfl
theorem endedS_size (l:ByteArray):(endedS l).size≤l.size+1:=by
 unfold endedS
 have:=trimS_size l
 rw [ByteArray.size_append]
 have e1:(bs [10]).size=1:=rfl
 omega
theorem obj_at {S:List LV} {id t:Nat} {xs:List LV} (h:S.getD id .any = .obj t xs) (K:(List LV→LV)→List LV→Option R):objAt S id K=K (.obj t) xs:=by
 unfold objAt;rw [h]
theorem write_line (k:Nat) (rf:Rf PG R 136 G.Qaq.ps G.Qaq.rs) {I:Ids} {e:Nat} {S:List LV} {v:LV} {out:ByteArray} {n:Nat} (h:S.getD e .any=exC I v n) (hv:OwnV v out) (ho:out.size≤100000) (l:ByteArray) (hl:l.size≤100000) (ch ls:List LV) (len i:Int)
  (Jnrm:(Nat×Nat)×List LV×List LV×Int×Int×Unit→List LV→Option R) (Jret:Int×Unit→List LV→Option R) :
  G.Qaq.q6 k rf Jnrm Jret ((e,0),ch,l,ls,len,i,()) S
   = ifB (decide (100000<(out++endedS l).size)) (Jret (5,()) (S.set e (exC I (.own 5 1 (bytesL (out++endedS l))) n))) (Jnrm ((e,0),ch,ls,len,i,()) (S.set e (exC I (.own 5 1 (bytesL (out++endedS l))) n))):=by
 have he:e<S.length:=getD_lt h (by simp [exC])
 have hs:=endedS_size l
 have h2:(S.set e (exC I (.sl 1 (bytesL out)) n)).getD e .any=exC I (.sl 1 (bytesL out)) n:=getD_set_self _ _ _ he
 have h4:(S.set e (exC I (.own 5 1 (bytesL (out++endedS l))) n)).getD e .any=exC I (.own 5 1 (bytesL (out++endedS l))) n:=getD_set_self _ _ _ he
 unfold G.Qaq.q6
 dsimp only
 rw [Nat.beq_refl,ifB_true,obj_at h]
 show asOwn 5 1 v _=_
 rw [hv.at]
 unfold setS
 dsimp only
 rw [show LV.obj 152 ([LV.ptr I.w 0,v,LV.int .i64 (n:Int)].set (0+1) (.sl 1 (bytesL out)))=exC I (.sl 1 (bytesL out)) n from rfl,ended_at k l (by omega)]
 rw [h2]
 unfold hidR
 rw [show Nat.blt e ((S.set e (exC I (.sl 1 (bytesL out)) n)).set e .any).length=true from Nat.ble_eq_true_of_le (by simp only [List.length_set];omega),ifB_true,List.set_set,List.set_set]
 dsimp only
 rw [app_le (by rw [bytesL_len,bytesL_len];omega) (by rw [bytesL_len,bytesL_len];omega),bytesL_app,obj_at h2]
 rw [show stO [LV.ptr I.w 0,LV.sl 1 (bytesL out),LV.int .i64 (n:Int)] (0+1) [.own 5 1 (bytesL (out++endedS l))]=fun K:List LV→Option R=>K [LV.ptr I.w 0,LV.own 5 1 (bytesL (out++endedS l)),LV.int .i64 (n:Int)] from rfl]
 dsimp only
 rw [show LV.obj 152 [LV.ptr I.w 0,LV.own 5 1 (bytesL (out++endedS l)),LV.int .i64 (n:Int)]=exC I (.own 5 1 (bytesL (out++endedS l))) n from rfl]
 rw [List.set_set]
 unfold G.Qaq.q4
 dsimp only
 rw [obj_at h4]
 show ifB (decide (((((bytesL (out++endedS l)).length:Nat):Int))>100000)) _ _=_
 rw [bytesL_len]
 congr 1
 exact decide_eq_decide.2 (by omega)
end
end Go.Lm
set_option maxRecDepth 100000
namespace Go.Lm
section
variable {R:Type}
theorem WkAt.setE {a:Act} {I:Ids} {S:List LV} {s:Wk} (h:WkAt a I S s) {e:Nat} (hw:e≠I.w) (hi:e≠I.i) (ho:e≠I.o) (hl:e≠I.l) (v:LV):WkAt a I (S.set e v) s :=
 ⟨by rw [getD_set_other _ _ (by omega)];exact h.w,by rw [getD_set_other _ _ (by omega)];exact h.i,by rw [getD_set_other _ _ (by omega)];exact h.o,by rw [getD_set_other _ _ (by omega)];exact h.l,h.io,h.il,h.ol⟩
structure ExAt (a:Act) (I:Ids) (e:Nat) (S:List LV) (x:ES):Prop where
 wk:WkAt a I S x.wk
 ok:WkOk x.wk
 ob:∃v,S.getD e .any=exC I v x.reads∧OwnV v x.out
theorem ExAt.ne {a:Act} {I:Ids} {e:Nat} {S:List LV} {x:ES} (h:ExAt a I e S x):e≠I.w∧e≠I.i∧e≠I.o∧e≠I.l:=by
 obtain ⟨v,h1,_⟩:=h.ob
 refine ⟨fun q=>?_,fun q=>?_,fun q=>?_,fun q=>?_⟩
 ·rw [q,h.wk.w] at h1;simp [exC] at h1
 ·rw [q,h.wk.i] at h1;cases h1
 ·rw [q,h.wk.o] at h1;cases h1
 ·rw [q,h.wk.l] at h1;cases h1
structure GrowE (I:Ids) (e:Nat) (S S':List LV):Prop where
 len:S.length≤S'.length
 old:∀id,id<S.length→id≠I.o→id≠I.l→id≠I.w→id≠e→S'.getD id .any=S.getD id .any
theorem GrowE.refl (I:Ids) (e:Nat) (S:List LV):GrowE I e S S:=⟨Nat.le_refl _,fun _ _ _ _ _ _=>rfl⟩
theorem GrowE.trans {I:Ids} {e:Nat} {S S' S'':List LV} (h:GrowE I e S S') (h':GrowE I e S' S''):GrowE I e S S'' :=
 ⟨Nat.le_trans h.len h'.len,fun id h1 h2 h3 h4 h5=>(h'.old id (Nat.lt_of_lt_of_le h1 h.len) h2 h3 h4 h5).trans (h.old id h1 h2 h3 h4 h5)⟩
theorem GrowE.of {I:Ids} {S S':List LV} (h:Grow I S S') (e:Nat):GrowE I e S S':=⟨h.len,fun id h1 h2 h3 h4 _=>h.old id h1 h2 h3 h4⟩
theorem GrowE.set (I:Ids) (e:Nat) (S:List LV) (v:LV):GrowE I e S (S.set e v):=⟨by rw [List.length_set];exact Nat.le_refl _,fun id _ _ _ _ h=>getD_set_other _ _ (by omega)⟩
theorem ExAt.set {a:Act} {I:Ids} {e:Nat} {S:List LV} {x:ES} (h:ExAt a I e S x) {v:LV} {out:ByteArray} (hv:OwnV v out) (n:Nat):ExAt a I e (S.set e (exC I v n)) { x with out:=out,reads:=n }:=by
 obtain ⟨h1,h2,h3,h4⟩:=h.ne
 obtain ⟨w,g1,_⟩:=h.ob
 exact ⟨h.wk.setE h1 h2 h3 h4 _,h.ok,v,getD_set_self _ _ _ (getD_lt g1 (by simp [exC])),hv⟩
theorem ExAt.grow {a:Act} {I:Ids} {e:Nat} {S S':List LV} {x:ES} {w:Wk} (h:ExAt a I e S x) (hw:WkAt a I S' w) (ho:WkOk w) (hg:Grow I S S'):ExAt a I e S' { x with wk:=w }:=by
 obtain ⟨h1,h2,h3,h4⟩:=h.ne
 obtain ⟨v,g1,g2⟩:=h.ob
 exact ⟨hw,ho,v,(hg.old e (getD_lt g1 (by simp [exC])) h3 h4 h1).trans g1,g2⟩
end
end Go.Lm
set_option maxRecDepth 100000
namespace Go.Lm
section
variable {R:Type}
theorem inc_step {k:Nat} (hk:Many k) (rf:Rf PG R 136 G.Qaq.ps G.Qaq.rs) {I:Ids} {e:Nat} {S:List LV} {v:LV} {out:ByteArray} {n:Nat} (h:S.getD e .any=exC I v n) (hv:OwnV v out) (ho:out.size≤100000) (L:List ByteArray) (hL:L.length≤140737488) {i:Nat} (hi:i<L.length) (hl:(L.getD i (bs [])).size≤100000) (ch:List LV)
  (J0:Unit→List LV→Option R) (Jret:Int×Unit→List LV→Option R) (rec:(Nat×Nat)×List LV×List LV×Int×Int×Unit→List LV→Option R) :
  G.Qaq.b0 k rf J0 Jret rec ((e,0),ch,L.map .str,(L.length:Int),(i:Int),()) S
   = cond ((inclS (trimS (L.getD i (bs [])))).2&&isPathS (inclS (trimS (L.getD i (bs [])))).1)
    (rf.f ((e,0),(inclS (trimS (L.getD i (bs [])))).1,ch,()) S fun (r:Int×Unit) S=>ifB (r.1 != 0) (Jret r S) (rec ((e,0),ch,L.map .str,(L.length:Int),((i+1:Nat):Int),()) S))
    (ifB (decide (100000<(out++endedS (L.getD i (bs []))).size)) (Jret (5,()) (S.set e (exC I (.own 5 1 (bytesL (out++endedS (L.getD i (bs []))))) n))) (rec ((e,0),ch,L.map .str,(L.length:Int),((i+1:Nat):Int),()) (S.set e (exC I (.own 5 1 (bytesL (out++endedS (L.getD i (bs []))))) n)))):=by
 unfold G.Qaq.b0
 dsimp only
 rw [lt_nat,ifB_pos hi,idxL_nat (by rw [List.length_map];exact hi),map_str_get L i hi,asLeaf_str]
 generalize L.getD i (bs [])=l at hl ⊢
 rw [trim_at k l (by omega)]
 dsimp only
 rw [show bs [105,110,99,108,117,100,101,32]=inclW from rfl,incl_at]
 dsimp only
 cases (inclS (trimS l)).2 with
 |false =>
  rw [ifB_false,Bool.false_and]
  unfold G.Qaq.q5
  dsimp only
  rw [ifB_false,write_line k rf h hv ho l hl]
  dsimp only
  rw [wrap_succ (by omega)]
  rfl
 |true =>
  rw [ifB_true,Bool.true_and,prog_IsPath hk]
  unfold G.Qaq.q5
  dsimp only
  cases isPathS (inclS (trimS l)).1 with
  |false =>
   rw [ifB_false,write_line k rf h hv ho l hl]
   dsimp only
   rw [wrap_succ (by omega)]
   rfl
  |true =>
   rw [ifB_true]
   unfold G.Qaq.rc
   try dsimp only
   rw [wrap_succ (by omega)]
   rfl
end
end Go.Lm
set_option maxRecDepth 100000
namespace Go.Lm
section
structure EsOk (x:ES):Prop where
 out:x.out.size≤100000
 rd:x.reads≤10000
def RecOk (a:Act) (I:Ids) (e:Nat) (ch:List LV) (rf:∀{R:Type},Rf PG R 136 G.Qaq.ps G.Qaq.rs) (rec:ByteArray→ES→Int×ES):Prop :=
 ∀(p:ByteArray) (S:List LV) (x:ES),ExAt a I e S x→EsOk x →
  ∃S',ExAt a I e S' (rec p x).2∧GrowE I e S S'∧((rec p x).1=0→EsOk (rec p x).2)∧∀{R:Type} (K:Int×Unit→List LV→Option R),(rf (R:=R)).f ((e,0),p,ch,()) S K=K ((rec p x).1,()) S'
theorem inc_loop {k:Nat} (hk:Many k) {a:Act} {I:Ids} {e:Nat} {ch:List LV} {rf:∀{R:Type},Rf PG R 136 G.Qaq.ps G.Qaq.rs} {rec:ByteArray→ES→Int×ES} (hrec:RecOk a I e ch rf rec) (L:List ByteArray) (hL:L.length≤140737488) (hl:∀w∈L,w.size≤100000) :
  ∀(d i f:Nat) (S:List LV) (x:ES),L.length=i+d→d<f→ExAt a I e S x→EsOk x →
  ∃S',ExAt a I e S' (incS rec (L.drop i) x).2∧GrowE I e S S'∧((incS rec (L.drop i) x).1=0→EsOk (incS rec (L.drop i) x).2) ∧
   ∀{R:Type} (J0:Unit→List LV→Option R) (Jret:Int×Unit→List LV→Option R),rounds (G.Qaq.b0 k rf J0 Jret) f ((e,0),ch,L.map .str,(L.length:Int),(i:Int),()) S=cond ((incS rec (L.drop i) x).1==0) (J0 () S') (Jret ((incS rec (L.drop i) x).1,()) S')
 |_,i,0,_,_,_,hf,_,_=>absurd hf (Nat.not_lt_zero _)
 |0,i,f+1,S,x,hi,hf,h,ho=>by
  have e0:i=L.length:=by omega
  subst e0
  rw [List.drop_length]
  refine ⟨S,h,GrowE.refl _ _ _,fun _=>ho,fun {R} J0 Jret=>?_⟩
  rw [rounds_succ]
  unfold G.Qaq.b0
  dsimp only
  rw [lt_nat,ifB_neg (Nat.lt_irrefl _)]
  rfl
 |d+1,i,f+1,S,x,hi,hf,h,ho=>by
  have hlt:i<L.length:=by omega
  have hsz:=hl _ (mem_get (z:=bs []) hlt)
  obtain ⟨v,h1,h2⟩:=h.ob
  rw [drop_cons' hlt]
  have step:=fun {R:Type} (J0:Unit→List LV→Option R) (Jret:Int×Unit→List LV→Option R)=>inc_step hk (rf (R:=R)) h1 h2 ho.out L hL hlt hsz ch J0 Jret (rounds (G.Qaq.b0 k rf J0 Jret) f)
  generalize L.getD i (bs [])=l at hsz step ⊢
  have eS:incS rec (l::L.drop (i+1)) x=cond ((inclS (trimS l)).2&&isPathS (inclS (trimS l)).1)
   (cond ((rec (inclS (trimS l)).1 x).1==0) (incS rec (L.drop (i+1)) (rec (inclS (trimS l)).1 x).2) (rec (inclS (trimS l)).1 x))
   (cond (decide (100000<(x.out++endedS l).size)) (5,{ x with out:=x.out++endedS l }) (incS rec (L.drop (i+1)) { x with out:=x.out++endedS l })):=rfl
  rw [eS]
  cases hb:((inclS (trimS l)).2&&isPathS (inclS (trimS l)).1) with
  |true =>
   rw [hb] at step
   obtain ⟨S1,g1,g2,g3,g4⟩:=hrec (inclS (trimS l)).1 S x h ho
   generalize rec (inclS (trimS l)).1 x=q at g1 g2 g3 g4 ⊢
   obtain ⟨c,x1⟩:=q
   by_cases hc:c=0
   ·subst hc
    obtain ⟨S2,k1,k2,k3,k4⟩:=inc_loop hk hrec L hL hl d (i+1) f S1 x1 (by omega) (by omega) g1 (g3 rfl)
    refine ⟨S2,k1,g2.trans k2,k3,fun {R} J0 Jret=>?_⟩
    rw [rounds_succ,step,cond_true,g4]
    exact k4 J0 Jret
   ·have hc2:(c==0)=false:=by rw [beq_eq_false_iff_ne];exact hc
    dsimp only at g1 g4
    rw [cond_true]
    dsimp only
    rw [hc2,cond_false]
    refine ⟨S1,g1,g2,fun q=>absurd q hc,fun {R} J0 Jret=>?_⟩
    try dsimp only
    rw [rounds_succ,step,cond_true,g4,hc2,cond_false]
    show ifB (c != 0) _ _=_
    rw [bne,hc2]
    rfl
  |false =>
   rw [hb] at step
   have hx:=h.set (v:=.own 5 1 (bytesL (x.out++endedS l))) (out:=x.out++endedS l) (.inl rfl) x.reads
   rw [cond_false]
   by_cases hc:100000<(x.out++endedS l).size
   ·rw [decide_eq_true hc,cond_true]
    refine ⟨_,hx,GrowE.set _ _ _ _,fun q=>(by cases q),fun {R} J0 Jret=>?_⟩
    rw [rounds_succ,step,cond_false,decide_eq_true hc]
    rfl
   ·rw [decide_eq_false hc,cond_false]
    obtain ⟨S2,k1,k2,k3,k4⟩:=inc_loop hk hrec L hL hl d (i+1) f _ _ (by omega) (by omega) hx ⟨by show (x.out++endedS l).size≤100000;omega,ho.rd⟩
    refine ⟨S2,k1,(GrowE.set _ _ _ _).trans k2,k3,fun {R} J0 Jret=>?_⟩
    rw [rounds_succ,step,cond_false,decide_eq_false hc]
    exact k4 J0 Jret
end
end Go.Lm
set_option maxRecDepth 100000
namespace Go.Lm
section
theorem exp_at {k:Nat} (hk:Many k) {a:Act} {I:Ids} {e:Nat}:∀(n:Nat) (ch:List ByteArray),32≤n+ch.length→ch.length≤31→RecOk a I e (ch.map .str) (fun {R}=>G.Qaq.lv (R:=R) k n) (expS n ch)
 |0,ch,h1,h2=>by omega
 |n+1,ch,hn,hc=>fun p S x h ho=>by
  have hk2:=hk
  unfold Many at hk2
  have start:∀{R:Type} (K:Int×Unit→List LV→Option R),(G.Qaq.lv k (n+1)).f ((e,0),p,ch.map .str,()) S K=G.Qaq.fb k (G.Qaq.lv k n) ((e,0),p,ch.map .str,()) S K:=fun K=>rfl
  by_cases hb:(ch.any (strEq p)||decide (30<ch.length))=true
  ·have eS:expS (n+1) ch p x=(4,x):=by unfold expS;rw [hb];rfl
   rw [eS]
   refine ⟨S,h,GrowE.refl _ _ _,fun q=>(by cases q),fun {R} K=>?_⟩
   rw [start]
   unfold G.Qaq.fb
   dsimp only
   rw [contains_at hk ch (by omega)]
   dsimp only
   cases hq:ch.any (strEq p) with
   |true=>rfl
   |false =>
    rw [hq,Bool.false_or] at hb
    rw [ifB_false,List.length_map,ifB_pos (by have:=of_decide_eq_true hb;omega)]
  ·have hb2:(ch.any (strEq p)||decide (30<ch.length))=false:=Bool.eq_false_iff.2 hb
   have eS:expS (n+1) ch p x=openS (expS n (ch++[p])) x (readS x.wk p):=by
    show cond _ _ _=_
    rw [hb2];rfl
   rw [eS]
   have hb3:=(Bool.or_eq_false_iff.1 hb2)
   have hch:¬ 30<ch.length:=of_decide_eq_false hb3.2
   obtain ⟨S1,w1,w2,w3⟩:=read_at hk h.wk h.ok p
   obtain ⟨v,o1,o2⟩:=h.ob
   have hok:WkOk (readS x.wk p).2:=h.ok.find p
   have hsz:∀b,(readS x.wk p).1=some b→b.size≤100000:=fun b hbb=>by
    unfold readS at hbb
    dsimp only at hbb
    cases hf:(findS x.wk p).1 with
    |none=>rw [hf] at hbb;cases hbb
    |some g=>rw [hf] at hbb;cases hbb;exact h.ok.found hf
   have hx1:=h.grow w1 hok w2
   have start2:∀{R:Type} (K:Int×Unit→List LV→Option R),G.Qaq.fb k (G.Qaq.lv k n) ((e,0),p,ch.map .str,()) S K=G.Qbh.fn k ((I.w,0),p,()) S fun r6 S=>ifB (r6.2.1 != 0) (K r6.2 S) (objAt S e fun _ c7=>ldInt .i64 c7 (0+2) fun n8=>objAt S e fun ty c9=>stO c9 (0+2) [(.int .i64 (IntKind.wrap .i64 (n8+1)))] fun c10=>setS (S.set e (ty c10)) fun S=>G.Qaq.q0 k (G.Qaq.lv k n) (fun o13 S=>G.Qaq.q1 k (G.Qaq.lv k n) K o13 S) K ((e,0),p,ch.map .str,r6.1,()) S):=fun {R} K=>by
    unfold G.Qaq.fb
    dsimp only
    rw [contains_at hk ch (by omega)]
    dsimp only
    rw [hb3.1,ifB_false,List.length_map,ifB_neg (by omega),obj_at o1]
    rfl
   generalize readS x.wk p=q at w1 w3 hok hsz hx1 ⊢
   obtain ⟨r,w⟩:=q
   cases r with
   |none =>
    refine ⟨S1,hx1,GrowE.of w2 e,fun q=>(by cases q),fun {R} K=>?_⟩
    rw [start,start2,w3]
    rfl
   |some b =>
    have hbs:=hsz b rfl
    obtain ⟨v1,u1,u2⟩:=hx1.ob
    have hx2:=hx1.set u2 (x.reads+1)
    obtain ⟨v2,y1,y2⟩:=hx2.ob
    have st:∀{R:Type} (K:Int×Unit→List LV→Option R),G.Qaq.fb k (G.Qaq.lv k n) ((e,0),p,ch.map .str,()) S K=G.Qaq.q0 k (G.Qaq.lv k n) (fun o13 S=>G.Qaq.q1 k (G.Qaq.lv k n) K o13 S) K ((e,0),p,ch.map .str,bytesL b,()) (S1.set e (exC I v1 (x.reads+1))):=fun {R} K=>by
     rw [start2,w3]
     rw [show outT 2 (some b,w).1=(bytesL b,(0:Int),()) from rfl]
     dsimp only
     rw [show ((0:Int) != 0)=false from rfl,ifB_false,obj_at u1]
     have l1:∀(K:Int→Option R),ldInt .i64 [LV.ptr I.w 0,v1,LV.int .i64 (x.reads:Int)] (0+2) K=K (x.reads:Int):=fun K=>rfl
     have l2:∀(y:Int) (K:List LV→Option R),stO [LV.ptr I.w 0,v1,LV.int .i64 (x.reads:Int)] (0+2) [.int .i64 y] K=K [LV.ptr I.w 0,v1,LV.int .i64 y]:=fun y K=>rfl
     rw [l1,obj_at u1,l2,wrap_succ (by have:=ho.rd;omega)]
     rfl
    have hs2:(S1.set e (exC I v1 (x.reads+1))).getD e .any=exC I v1 (x.reads+1):=getD_set_self _ _ _ (getD_lt u1 (by simp [exC]))
    have hg2:GrowE I e S (S1.set e (exC I v1 (x.reads+1))):=(GrowE.of w2 e).trans (GrowE.set _ _ _ _)
    rw [show openS (expS n (ch++[p])) x (some b,w)=cond (decide (10000<x.reads+1)) (4,{ x with wk:=w,reads:=x.reads+1 }) (incS (expS n (ch++[p])) (linesS b) { x with wk:=w,reads:=x.reads+1 }) from rfl]
    have q0at:∀{R:Type} (Jn:(Nat×Nat)×ByteArray×List LV×List LV×Unit→List LV→Option R) (K:Int×Unit→List LV→Option R),G.Qaq.q0 k (G.Qaq.lv k n) Jn K ((e,0),p,ch.map .str,bytesL b,()) (S1.set e (exC I v1 (x.reads+1)))=ifB (decide (((x.reads+1:Nat):Int)>10000)) (K (4,()) (S1.set e (exC I v1 (x.reads+1)))) (Jn ((e,0),p,ch.map .str,bytesL b,()) (S1.set e (exC I v1 (x.reads+1)))):=fun {R} Jn K=>by
     unfold G.Qaq.q0
     dsimp only
     rw [obj_at hs2]
     rfl
    by_cases hr:10000<x.reads+1
    ·rw [decide_eq_true hr,cond_true]
     refine ⟨_,hx2,hg2,fun q=>(by cases q),fun {R} K=>?_⟩
     rw [start,st,q0at,ifB_pos (by omega)]
    ·rw [decide_eq_false hr,cond_false]
     have hll:=linesS_len b
     obtain ⟨S3,k1,k2,k3,k4⟩:=inc_loop hk (exp_at hk n (ch++[p]) (by rw [List.length_append,List.length_singleton];omega) (by rw [List.length_append,List.length_singleton];omega)) (linesS b) (by omega) (fun w hw=>by have:=linesS_size hw;omega) (linesS b).length 0 k _ _ (by omega) (by omega) hx2 ⟨ho.out,by show x.reads+1≤10000;omega⟩
     rw [List.drop_zero] at k1 k3
     refine ⟨S3,k1,hg2.trans k2,k3,fun {R} K=>?_⟩
     rw [start,st,q0at,ifB_neg (by omega)]
     unfold G.Qaq.q1
     dsimp only
     rw [clone_str k _ (by rw [List.length_map];omega)]
     dsimp only
     rw [app_le (by rw [List.length_map];simp;omega) (by rw [List.length_map];simp;omega)]
     unfold G.Qaq.q2
     dsimp only
     rw [lines_at hk b (by omega)]
     unfold G.Qaq.q3
     dsimp only
     rw [List.length_map,show ch.map LV.str++[LV.str p]=(ch++[p]).map LV.str by rw [List.map_append];rfl]
     have k5:=k4 (R:=R) (fun _ S=>K (0,()) S) K
     rw [List.drop_zero] at k5
     refine k5.trans ?_
     generalize (incS (expS n (ch++[p])) (linesS b) { x with wk:=w,reads:=x.reads+1 }).1=c
     cases hc:c==0 with
     |false=>rfl
     |true=>rw [eq_of_beq hc];rfl
end
end Go.Lm
set_option maxRecDepth 100000
namespace Go.Lm
section
theorem WkAt.appE {a:Act} {I:Ids} {S:List LV} {s:Wk} (h:WkAt a I S s) (T:List LV):WkAt a I (S++T) s :=
 ⟨(getD_app_lt _ _ _ _ (getD_lt h.w (by simp))).trans h.w,(getD_app_lt _ _ _ _ (getD_lt h.i (by simp))).trans h.i,(getD_app_lt _ _ _ _ (getD_lt h.o (by simp))).trans h.o,(getD_app_lt _ _ _ _ (getD_lt h.l (by simp))).trans h.l,h.io,h.il,h.ol⟩
end
end Go.Lm
set_option maxRecDepth 100000
namespace Go.Lm
section
variable {R:Type}
def accN (w:ByteArray) (l:List ByteArray):Nat→ByteArray
 |0=>w
 |i+1=>(accN w l i++bs [])++l.getD i (bs [])
def joinN:List ByteArray→ByteArray
 |[]=>bs []
 |w::l=>accN w l l.length
theorem accN_size (w:ByteArray) (l:List ByteArray) (hw:w.size≤100000) (hl:∀x∈l,x.size≤100000):∀i,i≤l.length→(accN w l i).size≤(i+1)*100000
 |0,_=>by unfold accN;omega
 |i+1,h=>by
  have ih:=accN_size w l hw hl i (by omega)
  have:=get_size hl i (by omega)
  have e:(bs []).size=0:=rfl
  unfold accN
  rw [ByteArray.size_append,ByteArray.size_append,e]
  omega
theorem accN_pos (w:ByteArray) (l:List ByteArray) (hw:0<w.size):∀i,0<(accN w l i).size
 |0=>hw
 |i+1=>by
  have ih:=accN_pos w l hw i
  unfold accN
  rw [ByteArray.size_append,ByteArray.size_append]
  omega
theorem joinN_size (ws:List ByteArray) (hs:∀x∈ws,x.size≤100000):(joinN ws).size≤(ws.length+1)*100000:=by
 cases ws with
 |nil=>exact Nat.zero_le _
 |cons w l =>
  have:=accN_size w l (hs w (by simp)) (fun x hx=>hs x (by simp [hx])) l.length (Nat.le_refl _)
  exact Nat.le_trans this (Nat.mul_le_mul_right _ (by simp))
theorem sumW_pos (w:ByteArray) (l:List ByteArray) (hw:0<w.size):∀i,0<sumW (w::l) (i+1)
 |0=>by
  have e:sumW (w::l) (0+1)=w.size:=by
   unfold sumW sumW
   rw [List.getD_cons_zero,Nat.zero_add]
  rw [e];exact hw
 |i+1=>by
  have:=sumW_pos w l hw i
  show 0<sumW (w::l) (i+1)+_
  omega
theorem JoinN_two {k:Nat} (hk:Many k) (w v:ByteArray) (l:List ByteArray) (hl:(w::v::l).length≤100001) (hs:∀x∈w::v::l,x.size≤100000) (hw0:0<w.size) (S:List LV) (K:ByteArray×Unit→List LV→Option R) :
  G.Qds.fn0 k ((w::v::l).map .str,bs [],()) S K=K (joinN (w::v::l),()) (S++[.any]):=by
 have hk':=hk
 unfold Many at hk'
 have hws:(w::v::l).length=l.length+2:=rfl
 unfold G.Qds.fn0 G.Qds.q0 G.Qds.q1
 dsimp only
 have hlen:(((w::v::l).map LV.str).length:Int)=((l.length+2:Nat):Int):=by rw [List.length_map,hws]
 have e1:((bs []).size:Int)=0:=rfl
 rw [hlen,e1,show (((l.length+2:Nat):Int)==0)=false by rw [beq_eq_false_iff_ne];omega,show (((l.length+2:Nat):Int)==1)=false by rw [beq_eq_false_iff_ne];omega]
 rw [ifB_false,ifB_false,ifB_neg (show ¬ (0:Int)>0 by decide)]
 refine Eq.trans (rounds_scan0 (fun i=>((w::v::l).map LV.str,bs [],((sumW (w::v::l) i:Nat):Int),(w::v::l).map LV.str,((l.length+2:Nat):Int),(i:Int),())) S (l.length+2) k (fun _=>none) (K (joinN (w::v::l),()) (S++[.any])) (fun rec i hi=>?_) (fun rec=>?_) (by simp only [hws] at hl;omega)) ?_
 ·unfold G.Qds.b0 G.Qds.q2 G.Qds.q3 G.Qds.q4 G.Qds.q5
  dsimp only
  have hi2:i<((w::v::l).map LV.str).length:=by rw [List.length_map];exact hi
  have h1:=sumW_le (w::v::l) hs i (by rw [hws];omega)
  have h2:=get_size hs i (by rw [hws];exact hi)
  simp only [hws] at hl
  rw [lt_nat,ifB_pos hi,idxL_nat hi2,map_str_get _ i (by rw [hws];exact hi),asLeaf_str]
  rw [wrap_id (n:=9223372036854775807-_) (by omega) (by omega),ifB_neg (by omega),wrap_succ (by omega),wrap_id (by omega) (by omega)]
  have e3:((sumW (w::v::l) i:Nat):Int)+(((w::v::l).getD i (bs [])).size:Int)=((sumW (w::v::l) (i+1):Nat):Int):=by
   show _=((sumW (w::v::l) i+((w::v::l).getD i (bs [])).size:Nat):Int)
   omega
  rw [e3]
 ·unfold G.Qds.b0 G.Qds.q2 G.Qds.q6 G.Qds.q7 G.Qds.q8 G.Qds.q9 G.Qds.q10
  dsimp only
  rw [lt_nat,ifB_neg (Nat.lt_irrefl _)]
  have h1:=sumW_le (w::v::l) hs (l.length+2) (by rw [hws];omega)
  have h0:0<sumW (w::v::l) (l.length+2):=sumW_pos w (v::l) hw0 (l.length+1)
  simp only [hws] at hl
  unfold newObj
  show H.Grow.fn k ((S.length,0),_,()) (bldS S none) _=_
  rw [Grow_at k S _ (by omega) (by omega),idx_str0,asLeaf_str,WriteString_at k S _ w (by have:=hs w (by simp);show (bs []).size+_≤_;have e:(bs []).size=0:=rfl;omega)]
  rw [show accB (some (bs []))++w=w from bs_nil_app w,tail_at,List.length_map]
  have hsl:∀x∈v::l,x.size≤100000:=fun x hx=>hs x (by simp only [List.mem_cons] at hx ⊢;exact .inr hx)
  have hw:=hs w (by simp)
  have hvl:(v::l).length=l.length+1:=rfl
  refine Eq.trans (rounds_scan (fun i=>(bs [],(S.length,0),(v::l).map LV.str,((v::l).length:Int),(i:Int),())) (fun i=>bldS S (some (accN w (v::l) i))) (v::l).length (fun _=>none) (K (joinN (w::v::l),()) (S++[.any])) (fun rec i hi=>?_) (fun rec=>?_) (v::l).length 0 k (by omega) (by rw [hvl];omega)) ?_
  ·unfold G.Qds.b1 G.Qds.q11 G.Qds.q12 G.Qds.q13
   dsimp only
   have hi2:i<((v::l).map LV.str).length:=by rw [List.length_map];exact hi
   have h3:=accN_size w (v::l) hw hsl i (by omega)
   have h4:=get_size hsl i hi
   have e4:(bs []).size=0:=rfl
   have h5:(i+1)*100000≤100001*100000:=Nat.mul_le_mul_right _ (by rw [hvl] at hi;omega)
   rw [lt_nat,ifB_pos hi,idxL_nat hi2,map_str_get _ i hi,asLeaf_str,WriteString_at k S _ _ (by show (accN w (v::l) i).size+_≤_;omega)]
   rw [WriteString_at k S _ _ (by show ((accN w (v::l) i)++bs []).size+_≤_;rw [ByteArray.size_append];omega),wrap_succ (by rw [hvl] at hi;omega)]
   rfl
  ·unfold G.Qds.b1 G.Qds.q11
   dsimp only
   rw [lt_nat,ifB_neg (Nat.lt_irrefl _),String_at k S _ (accN_pos _ _ hw0 _)]
   rfl
  ·exact scan_none _ _ (fun _ _ _=>rfl)
 ·exact scan_none _ _ (fun _ _ _=>rfl)
theorem JoinN_at0 {k:Nat} (hk:Many k) (ws:List ByteArray) (hl:ws.length≤100001) (hs:∀x∈ws,x.size≤100000) (h0:∀x∈ws,0<x.size) (S:List LV):∃X,∀K:ByteArray×Unit→List LV→Option R,G.Qds.fn0 k (ws.map .str,bs [],()) S K=K (joinN ws,()) (S++X):=by
 match ws,hl,hs,h0 with
 |[],_,_,_=>exact ⟨[],fun K=>by rw [List.append_nil];rfl⟩
 |[w],_,_,_=>exact ⟨[],fun K=>by rw [List.append_nil];rfl⟩
 |w::v::l,hl,hs,h0=>exact ⟨[.any],fun K=>JoinN_two hk w v l hl hs (h0 w (by simp)) S K⟩
theorem JoinN_at {k:Nat} (hk:Many k) (ws:List ByteArray) (hl:ws.length≤100001) (hs:∀x∈ws,x.size≤100000) (h0:∀x∈ws,0<x.size) (S:List LV) (K:ByteArray×Unit→List LV→Option R):G.Qds.fn k (ws.map .str,bs [],()) S K=K (joinN ws,()) S:=by
 obtain ⟨X,h⟩:=JoinN_at0 (R:=LV×List LV) hk ws hl hs h0 S
 exact popK_at (h _) rfl
theorem linesL_pos:∀(n:Nat) (l:Bs),∀w∈linesL n l,0<w.length
 |0,_,w,h=>by cases h
 |n+1,l,w,h=>by
  unfold linesL at h
  cases hc:cutL 10 l with
  |none =>
   rw [hc] at h
   cases l with
   |nil=>cases h
   |cons b l'=>simp at h;subst h;simp
  |some ar =>
   obtain ⟨a,r⟩:=ar
   rw [hc] at h
   rcases List.mem_cons.1 h with rfl|h
   ·simp
   ·exact linesL_pos n r w h
theorem linesS_pos {b:ByteArray} {w:ByteArray} (h:w∈linesS b):0<w.size:=by
 obtain ⟨l,hl,rfl⟩:=List.mem_map.1 h
 rw [ofL_size]
 exact linesL_pos _ _ l hl
end
end Go.Lm
set_option maxRecDepth 100000
namespace Go.Lm
section
variable {R:Type}
def KeysB (m:List (LV×LV)) (ks:List ByteArray):Prop:=m.map Prod.fst=ks.map LV.str
theorem KeysB.put:∀{m:List (LV×LV)} {ks:List ByteArray} (_:KeysB m ks) (a:ByteArray) (v:LV),∃ks',KeysB (mapPut m (.str a) v) ks'∧ks'.length≤ks.length+1∧∀p,p∈ks'→p∈ks∨p=a
 |[],ks,h,a,v=>by
  cases ks with
  |nil=>exact ⟨[a],rfl,Nat.le_refl _,fun p hp=>.inr (by simpa using hp)⟩
  |cons x ks=>cases h
 | (x,y)::m,[],h,a,v=>by cases h
 | (x,y)::m,k::ks,h,a,v=>by
  unfold KeysB at h
  rw [List.map_cons,List.map_cons] at h
  injection h with h1 h2
  have h1:x = .str k:=h1
  subst h1
  obtain ⟨ks',g1,g2,g3⟩:=KeysB.put (m:=m) (ks:=ks) h2 a v
  have e:mapPut ((LV.str k,y)::m) (.str a) v=(match decide (k=a) with|true=>(LV.str k,v)::m|false=>(LV.str k,y)::mapPut m (.str a) v):=rfl
  rw [e]
  cases decide (k=a) with
  |true=>exact ⟨k::ks,by show _=_;rw [List.map_cons,List.map_cons];exact congrArg _ h2,Nat.le_succ _,fun p hp=>.inl hp⟩
  |false =>
   refine ⟨k::ks',by show _=_;rw [List.map_cons,List.map_cons];exact congrArg _ g1,by simp;omega,fun p hp=>?_⟩
   rcases List.mem_cons.1 hp with rfl|hp
   ·exact .inl (by simp)
   ·rcases g3 p hp with h|h
    ·exact .inl (by simp [h])
    ·exact .inr h
theorem KeysB.puts:∀(l:List ByteArray) {m:List (LV×LV)} {ks:List ByteArray} (_:KeysB m ks),∃ks',KeysB (putK (l.map .str) m) ks'∧ks'.length≤ks.length+l.length∧∀p,p∈ks'→p∈ks∨p∈l
 |[],m,ks,h=>⟨ks,h,Nat.le_refl _,fun p hp=>.inl hp⟩
 |a::l,m,ks,h=>by
  obtain ⟨k1,g1,g2,g3⟩:=h.put a (.bool true)
  obtain ⟨k2,f1,f2,f3⟩:=KeysB.puts l g1
  refine ⟨k2,f1,by simp;omega,fun p hp=>?_⟩
  rcases f3 p hp with h|h
  ·rcases g3 p h with h|h
   ·exact .inl h
   ·exact .inr (by simp [h])
  ·exact .inr (by simp [h])
theorem fsts_files (l:List WF):fsts (filesM l)=(l.map WF.p).map .str:=by
 unfold fsts filesM;rw [List.map_map,List.map_map];rfl
def listM (s:Wk):List (LV×LV):=putK (fsts (filesM s.wr)) (putK (fsts (filesM s.inp)) [])
def listL (s:Wk):List ByteArray:=(sortS (listM s)).map ofL
theorem listM_keys (s:Wk):∃ks,KeysB (listM s) ks∧ks.length≤s.inp.length+s.wr.length∧∀p∈ks,p∈s.inp.map WF.p∨p∈s.wr.map WF.p:=by
 unfold listM
 rw [fsts_files,fsts_files]
 obtain ⟨k1,g1,g2,g3⟩:=KeysB.puts (s.inp.map WF.p) (m:=[]) (ks:=[]) rfl
 obtain ⟨k2,f1,f2,f3⟩:=KeysB.puts (s.wr.map WF.p) g1
 refine ⟨k2,f1,by simp at g2 f2 ⊢;omega,fun p hp=>?_⟩
 rcases f3 p hp with h|h
 ·rcases g3 p h with h|h
  ·cases h
  ·exact .inl h
 ·exact .inr h
theorem KeysB.sort {m:List (LV×LV)} {ks:List ByteArray} (h:KeysB m ks):((sortS m).map ofL).Perm ks:=by
 have e:(m.map fun kv=>keyS kv.1)=ks.map toL:=by
  have:(m.map fun kv=>keyS kv.1)=(m.map Prod.fst).map keyS:=by rw [List.map_map];rfl
  rw [this,show m.map Prod.fst=ks.map LV.str from h,List.map_map];rfl
 unfold sortS
 rw [e]
 have h1:=(List.mergeSort_perm (ks.map toL) (fun x y=>decide (x≤y))).map ofL
 rw [List.map_map] at h1
 refine h1.trans (.of_eq ?_)
 have:∀l:List ByteArray,l.map (ofL ∘ toL)=l:=fun l=>by
  induction l with
  |nil=>rfl
  |cons a l ih=>rw [List.map_cons,ih];rfl
 exact this ks
theorem keysok {m:List (LV×LV)} {ks:List ByteArray} (h:KeysB m ks) (hl:ks.length≤100000) (hs:∀p∈ks,p.size≤100000):H.keySok m=true:=by
 have hlen:m.length=ks.length:=by have:=congrArg List.length h;simpa using this
 unfold H.keySok
 rw [Bool.and_eq_true,decide_eq_true_iff,List.all_eq_true]
 refine ⟨by omega,fun x hx=>?_⟩
 have:x.1∈ks.map LV.str:=by rw [←show m.map Prod.fst=ks.map LV.str from h];exact List.mem_map_of_mem hx
 obtain ⟨p,hp,e⟩:=List.mem_map.1 this
 rw [←e,decide_eq_true_iff]
 have:=hs p hp
 show (p.data.toList).length≤_
 rw [ba_len];omega
theorem sortedB_at (k:Nat) {S:List LV} {id t m:Nat} {kvs:List (LV×LV)} (h1:S.getD id .any = .obj t [.map m]) (h2:S.getD m .any = .mp .str kvs) (h3:H.keySok kvs=true) (K:List LV×Unit→List LV→Option R) :
  H.SortedB.fn k (((id,0),()),()) S K=K (((sortS kvs).map ofL).map .str,()) S:=by
 have e:((sortS kvs).map ofL).map LV.str=(sortS kvs).map fun l=>LV.str ⟨l.toArray⟩:=by rw [List.map_map];rfl
 unfold H.SortedB.fn sortedSF
 dsimp only
 rw [h1]
 dsimp only
 rw [h2]
 dsimp only
 rw [h3,e]
 rfl
def listGo (path:ByteArray):List ByteArray→ByteArray→Wk→ByteArray×Wk
 |[],acc,s=>(acc,s)
 |p::ps,acc,s=>cond (liesS p path) (listGo path ps (acc++(p++bs [10])) (findS s p).2) (listGo path ps acc s)
theorem list_loop {k:Nat} (hk:Many k) {a:Act} {I:Ids} (path:ByteArray) (hp:path.size≤100000) (L:List ByteArray) (hL:L.length≤100000) (hs:∀w∈L,w.size≤100000):∀(d i n:Nat) {S:List LV} {s:Wk} (acc:ByteArray),WkAt a I S s→WkOk s→L.length=i+d→d<n→acc.size≤i*100001 →
  ∃S',WkAt a I S' (listGo path (L.drop i) acc s).2∧WkOk (listGo path (L.drop i) acc s).2∧Grow I S S'∧∀{R:Type} (J4:List LV×Unit→List LV→Option R),
   rounds (G.Qbe.b2 k J4) n ((I.w,0),path,bytesL acc,L.map .str,(L.length:Int),(i:Int),()) S=J4 (bytesL (listGo path (L.drop i) acc s).1,()) S'
 |_,i,0,S,s,acc,h,hs',hd,hn,ha=>by omega
 |0,i,n+1,S,s,acc,h,hs',hd,hn,ha=>by
  have e:L.drop i=[]:=List.drop_eq_nil_of_le (by omega)
  rw [e]
  refine ⟨S,h,hs',Grow.refl _ _,fun {R} J4=>?_⟩
  rw [rounds_succ]
  unfold G.Qbe.b2
  dsimp only
  rw [lt_nat,ifB_neg (by omega)]
  rfl
 |d+1,i,n+1,S,s,acc,h,hs',hd,hn,ha=>by
  have hi:i<L.length:=by omega
  have hsz:=hs _ (mem_get (z:=bs []) hi)
  rw [drop_cons' hi]
  have start:∀{R:Type} (J4:List LV×Unit→List LV→Option R),rounds (G.Qbe.b2 k J4) (n+1) ((I.w,0),path,bytesL acc,L.map .str,(L.length:Int),(i:Int),()) S =
    ifB (liesS (L.getD i (bs [])) path) (G.Qbc.fn k ((I.w,0),L.getD i (bs []),()) S fun r18 S=>rounds (G.Qbe.b2 k J4) n ((I.w,0),path,bytesL (acc++(L.getD i (bs [])++bs [10])),L.map .str,(L.length:Int),((i+1:Nat):Int),()) S)
     (rounds (G.Qbe.b2 k J4) n ((I.w,0),path,bytesL acc,L.map .str,(L.length:Int),((i+1:Nat):Int),()) S):=fun {R} J4=>by
   have e1:(bs [10]).size=1:=rfl
   have h5:i*100001≤100000*100001:=Nat.mul_le_mul_right _ (by omega)
   rw [rounds_succ]
   unfold G.Qbe.b2
   dsimp only
   rw [lt_nat,ifB_pos hi,idxL_nat (by rw [List.length_map];exact hi),map_str_get L i hi,asLeaf_str,prog_Within k _ _ (by omega)]
   dsimp only
   rw [wrap_succ (by omega)]
   refine congrArg (fun z=>ifB _ z _) ?_
   refine congrArg (fun z=>G.Qbc.fn k _ S z) ?_
   funext r18 S2
   rw [cat_le (by omega),app_le (by rw [bytesL_len,bytesL_len,ByteArray.size_append];omega) (by rw [bytesL_len,bytesL_len,ByteArray.size_append];omega),bytesL_app]
  generalize L.getD i (bs [])=p at hsz start ⊢
  unfold listGo
  cases hb:liesS p path with
  |true =>
   obtain ⟨S1,h1,h2,h3⟩:=find_at hk h hs'.big p
   obtain ⟨S2,g1,g2,g3,g4⟩:=list_loop hk path hp L hL hs d (i+1) n (acc++(p++bs [10])) h1 (hs'.find _) (by omega) (by omega) (by rw [ByteArray.size_append,ByteArray.size_append];have e1:(bs [10]).size=1:=rfl;omega)
   refine ⟨S2,g1,g2,h2.trans g3,fun {R} J4=>?_⟩
   rw [start,hb,ifB_true,h3]
   exact g4 J4
  |false =>
   obtain ⟨S2,g1,g2,g3,g4⟩:=list_loop hk path hp L hL hs d (i+1) n acc h hs' (by omega) (by omega) (Nat.le_trans ha (Nat.mul_le_mul_right _ (Nat.le_succ _)))
   refine ⟨S2,g1,g2,g3,fun {R} J4=>?_⟩
   rw [start,hb,ifB_false]
   exact g4 J4
theorem beq_nat_ne {a b:Nat} (h:a≠b):Nat.beq a b=false:=by
 cases hb:Nat.beq a b with
 |false=>rfl
 |true=>exact absurd (Nat.eq_of_beq_eq_true hb) h
def listS (s:Wk) (path:ByteArray):ByteArray×Wk:=listGo path (listL (findS s path).2) (bs []) (findS s path).2
theorem listGo_size (path:ByteArray):∀(L:List ByteArray) (acc:ByteArray) (s:Wk),(∀w∈L,w.size≤100000)→(listGo path L acc s).1.size≤acc.size+L.length*100001
 |[],acc,s,_=>by show acc.size≤_;omega
 |p::ps,acc,s,h=>by
  have h0:=h p (by simp)
  have e1:(bs [10]).size=1:=rfl
  unfold listGo
  cases liesS p path with
  |true =>
   have:=listGo_size path ps (acc++(p++bs [10])) (findS s p).2 (fun w hw=>h w (by simp [hw]))
   rw [ByteArray.size_append,ByteArray.size_append] at this
   rw [List.length_cons,cond_true];omega
  |false =>
   have:=listGo_size path ps acc s (fun w hw=>h w (by simp [hw]))
   exact Nat.le_trans this (Nat.add_le_add_left (Nat.mul_le_mul_right _ (by simp)) _)
structure WkP (s:Wk):Prop where
 inp:s.inp.length≤1000∧∀f∈s.inp,f.p.size≤100000
 wr:s.wr.length≤1000∧∀f∈s.wr,f.p.size≤100000
theorem WkP.find {s:Wk} (h:WkP s) (p:ByteArray):WkP (findS s p).2:=by
 obtain ⟨h1,h2,_,_⟩:=findS_keep s p
 exact ⟨by rw [h1];exact h.inp,by rw [h2];exact h.wr⟩
theorem WkP.list {s:Wk} (h:WkP s):(listL s).length≤2000∧(∀w∈listL s,w.size≤100000)∧H.keySok (listM s)=true∧∀w∈listL s,w∈s.inp.map WF.p∨w∈s.wr.map WF.p:=by
 obtain ⟨ks,h1,h2,h3⟩:=listM_keys s
 have hp:=h1.sort
 have hin:=h.inp
 have hwr:=h.wr
 have hsz:∀p∈ks,p.size≤100000:=fun p hp=>by
  rcases h3 p hp with h|h
  ·obtain ⟨f,hf,rfl⟩:=List.mem_map.1 h;exact hin.2 f hf
  ·obtain ⟨f,hf,rfl⟩:=List.mem_map.1 h;exact hwr.2 f hf
 exact ⟨by unfold listL;rw [hp.length_eq];omega,fun w hw=>hsz w (hp.mem_iff.1 hw),keysok h1 (by omega) hsz,fun w hw=>h3 w (hp.mem_iff.1 hw)⟩
theorem listS_size {s:Wk} (h:WkP s) (path:ByteArray):(listS s path).1.size≤1000000000:=by
 obtain ⟨h1,h2,_⟩:=(h.find path).list
 have:=listGo_size path (listL (findS s path).2) (bs []) (findS s path).2 h2
 have e:(bs []).size=0:=rfl
 unfold listS
 have h3:(listL (findS s path).2).length*100001≤2000*100001:=Nat.mul_le_mul_right _ h1
 omega
theorem list_at {k:Nat} (hk:Many k) {a:Act} {I:Ids} {S:List LV} {s:Wk} (h:WkAt a I S s) (hs:WkOk s) (hp:WkP s) (path:ByteArray) (hps:path.size≤100000) :
  ∃S',WkAt a I S' (listS s path).2∧WkOk (listS s path).2∧Grow I S S'∧∀{R:Type} (K:List LV×Unit→List LV→Option R),G.Qbe.fn k ((I.w,0),path,()) S K=K (bytesL (listS s path).1,()) S':=by
 obtain ⟨S1,h1,h2,h3⟩:=find_at hk h hs.big path
 have hp1:=hp.find path
 have hs1:=hs.find path
 unfold listS
 generalize (findS s path).2=s1 at h1 hp1 hs1 h3 ⊢
 obtain ⟨l1,l2,l3,l4⟩:=hp1.list
 let S2:=S1++[LV.mp .str []]
 let S3:=S2.set S1.length (.mp .str (putK (fsts (filesM s1.inp)) []))
 let S4:=S3.set S1.length (.mp .str (listM s1))
 let S5:=S4++[.obj 106 [.map S1.length]]
 have hw1:=getD_lt h1.w (by simp)
 have hi1:=getD_lt h1.i (by simp)
 have ho1:=getD_lt h1.o (by simp)
 have hl1:=getD_lt h1.l (by simp)
 have hS2:S2.length=S1.length+1:=by simp [S2]
 have hS3:S3.length=S1.length+1:=by simp [S3,S2]
 have hS4:S4.length=S1.length+1:=by simp [S4,S3,S2]
 have w2:WkAt a I S2 s1:=h1.appE _
 have w3:WkAt a I S3 s1:=w2.setE (by omega) (by omega) (by omega) (by omega) _
 have w4:WkAt a I S4 s1:=w3.setE (by omega) (by omega) (by omega) (by omega) _
 have w5:WkAt a I S5 s1:=w4.appE _
 have g2:S2.getD S1.length .any = .mp .str []:=get_last _ _
 have g3:S3.getD S1.length .any = .mp .str (putK (fsts (filesM s1.inp)) []):=getD_set_self _ _ _ (by omega)
 have g4:S4.getD S1.length .any = .mp .str (listM s1):=getD_set_self _ _ _ (by omega)
 have g5:S5.getD S1.length .any = .mp .str (listM s1):=getD_app g4 (by simp) _
 have g6:S5.getD S4.length .any = .obj 106 [.map S1.length]:=get_last _ _
 have gr:Grow I S1 S5:=⟨by simp only [S5,List.length_append,hS4];omega,fun id q1 _ _ _=>by
  show (S4++_).getD id .any=_
  rw [getD_app_lt _ _ _ _ (by omega)]
  show ((S2.set _ _).set _ _).getD id .any=_
  rw [getD_set_other _ _ (by omega),getD_set_other _ _ (by omega)]
  exact getD_app_lt _ _ _ _ q1⟩
 obtain ⟨S6,t1,t2,t3,t4⟩:=list_loop hk path hps (listL s1) (by omega) l2 (listL s1).length 0 k (bs []) w5 hs1 (by omega) (by unfold Many at hk;omega) (by decide)
 rw [List.drop_zero] at t1 t2 t4
 refine ⟨S6,t1,t2,(h2.trans gr).trans t3,fun {R} K=>?_⟩
 unfold G.Qbe.fn
 rw [h3]
 unfold newObj
 dsimp only
 have l6:∀(told:ByteArray) (total:Int) (K:LV→Option R),ldRaw (cellsW a I told total) (0+6) K=K (.map I.i):=fun _ _ _=>rfl
 rw [at_of w2.w,l6,amap_at,mp_at w2.i,mp_at g2,show Nat.beq I.i S1.length=false from by exact beq_nat_ne (by omega),Bool.not_false,ifB_true,setS_of]
 rw [at_of w3.w,c7_at,amap_at,mp_at w3.o,mp_at g3,show Nat.beq I.o S1.length=false from by exact beq_nat_ne (by omega),Bool.not_false,ifB_true,setS_of]
 unfold G.Qch.fn newObj
 dsimp only
 show H.SortedB.fn k (((S4.length,0),()),()) S5 _=_
 rw [sortedB_at k g6 g5 l3]
 dsimp only
 rw [List.length_map]
 exact t4 K
end
end Go.Lm
