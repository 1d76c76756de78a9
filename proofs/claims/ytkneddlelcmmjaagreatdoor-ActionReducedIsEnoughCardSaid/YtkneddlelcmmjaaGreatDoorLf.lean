/- Parts of the proof: LmJK, LmJL, LmI2, LmJM, LmJN, LmJO, LmJP, LmJQ, LmJR, LmJU, LmJV, LmJW, LmJX, LmW. -/
import Derived.Test.YtkneddlelcmmjaaGreatDoorLe
import Derived.Lib.ItoaLen
import Derived.Carry
import Derived.SizedLaws
set_option linter.unusedVariables false
set_option linter.unusedSimpArgs false
set_option maxRecDepth 100000
namespace Go.Lm
section
inductive Cm where
 |join (p q:ByteArray) (l:List ByteArray)
 |expand (p q:ByteArray)
 |pick (p q r:ByteArray) (l:List ByteArray)
 |list (p q:ByteArray)
 |var (p w:ByteArray)
 |sort (p q:ByteArray)
 |count (p q:ByteArray)
 |first (p n q:ByteArray)
 |change (p m r q:ByteArray)
 |digest (p q:ByteArray)
 |make (p q:ByteArray)
 |tell (w:ByteArray) (l:List ByteArray)
 |need (p:ByteArray)
 |same (p q:ByteArray)
 |fail (n:ByteArray)
def Cm.words:Cm→List ByteArray
 | .join p q l=>bs [106,111,105,110]::p::q::l
 | .expand p q=>[bs [101,120,112,97,110,100],p,q]
 | .pick p q r l=>bs [112,105,99,107]::p::q::r::l
 | .list p q=>[bs [108,105,115,116],p,q]
 | .var p w=>[bs [118,97,114],p,w]
 | .sort p q=>[bs [115,111,114,116],p,q]
 | .count p q=>[bs [99,111,117,110,116],p,q]
 | .first p n q=>[bs [102,105,114,115,116],p,n,q]
 | .change p m r q=>[bs [99,104,97,110,103,101],p,m,r,q]
 | .digest p q=>[bs [100,105,103,101,115,116],p,q]
 | .make p q=>[bs [109,97,107,101],p,q]
 | .tell w l=>bs [116,101,108,108]::w::l
 | .need p=>[bs [110,101,101,100],p]
 | .same p q=>[bs [115,97,109,101],p,q]
 | .fail n=>[bs [102,97,105,108],n]
def Cm.paths:Cm→List ByteArray
 | .join p q l=>p::q::l
 | .expand p q=>[p,q]
 | .pick p q r l=>p::q::r::l
 | .list p q=>[p,q]
 | .var p _=>[p]
 | .sort p q=>[p,q]
 | .count p q=>[p,q]
 | .first p _ q=>[p,q]
 | .change p _ _ q=>[p,q]
 | .digest p q=>[p,q]
 | .make p q=>[p,q]
 | .tell _ _=>[]
 | .need p=>[p]
 | .same p q=>[p,q]
 | .fail _=>[]
def Cm.num:Cm→Prop
 | .first _ n _=>isNumS n 6=true
 | .fail n=>isNumS n 6=true∧strEq n (bs [48])=false
 |_=>True
structure Cm.Ok (m:Cm):Prop where
 word:∀w∈m.words,isWordS w=true
 len:m.words.length≤50
 path:∀p∈m.paths,isPathS p=true
 num:m.num
theorem formedS_facts {ws:List ByteArray} {f sorts:ByteArray} {more:Bool} (hc:cutPlus f=(sorts,more)) (h:formedS ws f=true) :
  sorts.size≤ws.length∧(more=false→ws.length=sorts.size)∧∀i,i<ws.length→stepF ws sorts i=true:=by
 unfold formedS at h
 rw [hc] at h
 dsimp only at h
 have hl:formedL ws sorts=true→∀i,i<ws.length→stepF ws sorts i=true:=fun hh i hi=>by
  unfold formedL at hh
  cases hs:stepF ws sorts i with
  |true=>rfl
  |false =>
   exfalso
   have:∀(d j:Nat),j≤i→i<j+d→scan (fun i=>cond (stepF ws sorts i) none (some false)) true d j=false:=fun d=>by
    induction d with
    |zero=>intro j h1 h2;omega
    |succ d ih =>
     intro j h1 h2
     unfold scan
     by_cases e:j=i
     ·subst e;rw [hs];rfl
     ·cases hj:stepF ws sorts j with
      |false=>rfl
      |true=>exact ih (j+1) (by omega) (by omega)
   rw [this ws.length 0 (Nat.zero_le _) (by omega)] at hh
   cases hh
 by_cases h1:ws.length<sorts.size
 ·rw [decide_eq_true h1] at h;cases h
 ·rw [decide_eq_false h1,cond_false] at h
  by_cases h2:ws.length>sorts.size
  ·rw [decide_eq_true h2,cond_true] at h
   cases more with
   |false=>cases h
   |true=>exact ⟨by omega,fun e=>(by cases e),hl h⟩
  ·rw [decide_eq_false h2,cond_false] at h
   exact ⟨by omega,fun _=>by omega,hl h⟩
theorem step_p {ws:List ByteArray} {sorts:ByteArray} {i:Nat} (h:stepF ws sorts i=true) (e:bt sorts ((min i (sorts.size-1):Nat):Int)=112):isPathS (ws.getD i (bs []))=true:=by
 unfold stepF at h;rw [e] at h;exact h
theorem step_n {ws:List ByteArray} {sorts:ByteArray} {i:Nat} (h:stepF ws sorts i=true) (e:bt sorts ((min i (sorts.size-1):Nat):Int)=110):isNumS (ws.getD i (bs [])) 6=true:=by
 unfold stepF at h;rw [e] at h;exact h
theorem len1 {ws:List ByteArray} (h:ws.length=1):∃p,ws=[p]:=by
 match ws,h with
 |[p],_=>exact ⟨p,rfl⟩
theorem len2 {ws:List ByteArray} (h:ws.length=2):∃p q,ws=[p,q]:=by
 match ws,h with
 |[p,q],_=>exact ⟨p,q,rfl⟩
theorem len3 {ws:List ByteArray} (h:ws.length=3):∃p q r,ws=[p,q,r]:=by
 match ws,h with
 |[p,q,r],_=>exact ⟨p,q,r,rfl⟩
theorem len4 {ws:List ByteArray} (h:ws.length=4):∃p q r s,ws=[p,q,r,s]:=by
 match ws,h with
 |[p,q,r,s],_=>exact ⟨p,q,r,s,rfl⟩
theorem form_pp {ws:List ByteArray} (h:formedS ws (bs [112,112])=true):∃p q,ws=[p,q]∧∀x∈[p,q],isPathS x=true:=by
 obtain ⟨_,h2,h3⟩:=formedS_facts (sorts:=bs [112,112]) (more:=false) (by decide +kernel) h
 have hl:ws.length=2:=h2 rfl
 obtain ⟨p,q,rfl⟩:=len2 hl
 have a1:=step_p (h3 0 (by simp)) (by decide +kernel)
 have a2:=step_p (h3 1 (by simp)) (by decide +kernel)
 refine ⟨p,q,rfl,fun x hx=>?_⟩
 simp only [List.mem_cons,List.not_mem_nil,or_false] at hx
 rcases hx with rfl|rfl
 ·exact a1
 ·exact a2
theorem form_p {ws:List ByteArray} (h:formedS ws (bs [112])=true):∃p,ws=[p]∧∀x∈[p],isPathS x=true:=by
 obtain ⟨_,h2,h3⟩:=formedS_facts (sorts:=bs [112]) (more:=false) (by decide +kernel) h
 have hl:ws.length=1:=h2 rfl
 obtain ⟨p,rfl⟩:=len1 hl
 have a1:=step_p (h3 0 (by simp)) (by decide +kernel)
 refine ⟨p,rfl,fun x hx=>?_⟩
 simp only [List.mem_cons,List.not_mem_nil,or_false] at hx
 subst hx;exact a1
theorem form_n {ws:List ByteArray} (h:formedS ws (bs [110])=true):∃n,ws=[n]∧isNumS n 6=true:=by
 obtain ⟨_,h2,h3⟩:=formedS_facts (sorts:=bs [110]) (more:=false) (by decide +kernel) h
 have hl:ws.length=1:=h2 rfl
 obtain ⟨p,rfl⟩:=len1 hl
 exact ⟨p,rfl,step_n (h3 0 (by simp)) (by decide +kernel)⟩
theorem form_pw {ws:List ByteArray} (h:formedS ws (bs [112,119])=true):∃p w,ws=[p,w]∧∀x∈[p],isPathS x=true:=by
 obtain ⟨_,h2,h3⟩:=formedS_facts (sorts:=bs [112,119]) (more:=false) (by decide +kernel) h
 have hl:ws.length=2:=h2 rfl
 obtain ⟨p,q,rfl⟩:=len2 hl
 have a1:=step_p (h3 0 (by simp)) (by decide +kernel)
 refine ⟨p,q,rfl,fun x hx=>?_⟩
 simp only [List.mem_cons,List.not_mem_nil,or_false] at hx
 subst hx;exact a1
theorem form_w {ws:List ByteArray} (h:formedS ws (bs [119,43])=true):∃w l,ws=w::l:=by
 obtain ⟨h1,_,_⟩:=formedS_facts (sorts:=bs [119]) (more:=true) (by decide +kernel) h
 have hl:1≤ws.length:=h1
 match ws,hl with
 |w::l,_=>exact ⟨w,l,rfl⟩
theorem form_pnp {ws:List ByteArray} (h:formedS ws (bs [112,110,112])=true):∃p n q,ws=[p,n,q]∧isNumS n 6=true∧∀x∈[p,q],isPathS x=true:=by
 obtain ⟨_,h2,h3⟩:=formedS_facts (sorts:=bs [112,110,112]) (more:=false) (by decide +kernel) h
 have hl:ws.length=3:=h2 rfl
 obtain ⟨p,n,q,rfl⟩:=len3 hl
 have a1:=step_p (h3 0 (by simp)) (by decide +kernel)
 have a2:=step_n (h3 1 (by simp)) (by decide +kernel)
 have a3:=step_p (h3 2 (by simp)) (by decide +kernel)
 refine ⟨p,n,q,rfl,a2,fun x hx=>?_⟩
 simp only [List.mem_cons,List.not_mem_nil,or_false] at hx
 rcases hx with rfl|rfl
 ·exact a1
 ·exact a3
theorem form_pwwp {ws:List ByteArray} (h:formedS ws (bs [112,119,119,112])=true):∃p m r q,ws=[p,m,r,q]∧∀x∈[p,q],isPathS x=true:=by
 obtain ⟨_,h2,h3⟩:=formedS_facts (sorts:=bs [112,119,119,112]) (more:=false) (by decide +kernel) h
 have hl:ws.length=4:=h2 rfl
 obtain ⟨p,m,r,q,rfl⟩:=len4 hl
 have a1:=step_p (h3 0 (by simp)) (by decide +kernel)
 have a3:=step_p (h3 3 (by simp)) (by decide +kernel)
 refine ⟨p,m,r,q,rfl,fun x hx=>?_⟩
 simp only [List.mem_cons,List.not_mem_nil,or_false] at hx
 rcases hx with rfl|rfl
 ·exact a1
 ·exact a3
theorem all_of_get {ws:List ByteArray} {P:ByteArray→Prop} (h:∀i,i<ws.length→P (ws.getD i (bs []))):∀x∈ws,P x:=fun x hx=>by
 obtain ⟨i,hi,rfl⟩:=List.mem_iff_getElem.1 hx
 have:=h i hi
 rw [List.getD_eq_getElem?_getD,List.getElem?_eq_getElem hi] at this
 exact this
theorem form_join {ws:List ByteArray} (h:formedS ws (bs [112,112,43])=true):∃p q l,ws=p::q::l∧∀x∈p::q::l,isPathS x=true:=by
 obtain ⟨h1,_,h3⟩:=formedS_facts (sorts:=bs [112,112]) (more:=true) (by decide +kernel) h
 have hl:2≤ws.length:=h1
 match ws,hl,h3 with
 |p::q::l,_,h3 =>
  refine ⟨p,q,l,rfl,all_of_get fun i hi=>step_p (h3 i hi) ?_⟩
  have:min i ((bs [112,112]).size-1)=0∨min i ((bs [112,112]).size-1)=1:=by
   have e:(bs [112,112]).size=2:=rfl
   omega
  rcases this with e|e<;>rw [e]<;>decide +kernel
theorem form_pick {ws:List ByteArray} (h:formedS ws (bs [112,112,112,43])=true):∃p q r l,ws=p::q::r::l∧∀x∈p::q::r::l,isPathS x=true:=by
 obtain ⟨h1,_,h3⟩:=formedS_facts (sorts:=bs [112,112,112]) (more:=true) (by decide +kernel) h
 have hl:3≤ws.length:=h1
 match ws,hl,h3 with
 |p::q::r::l,_,h3 =>
  refine ⟨p,q,r,l,rfl,all_of_get fun i hi=>step_p (h3 i hi) ?_⟩
  have:min i ((bs [112,112,112]).size-1)=0∨min i ((bs [112,112,112]).size-1)=1∨min i ((bs [112,112,112]).size-1)=2:=by
   have e:(bs [112,112,112]).size=3:=rfl
   omega
  rcases this with e|e|e<;>rw [e]<;>decide +kernel
theorem cmd_of {c:List ByteArray} (h:cmdS c=0):∃m:Cm,m.words=c∧m.Ok:=by
 unfold cmdS at h
 cases c with
 |nil=>exact absurd h (by decide)
 |cons w ws =>
  rw [decide_eq_false (show ¬ (w::ws).length=0 by simp),cond_false] at h
  by_cases hl:(w::ws).length>50
  ·rw [decide_eq_true hl,cond_true] at h;exact absurd h (by decide)
  rw [decide_eq_false hl,cond_false] at h
  have hl:(w::ws).length≤50:=by omega
  cases hb:badWords (w::ws) with
  |true=>rw [hb,cond_true] at h;exact absurd h (by decide)
  |false =>
  rw [hb,cond_false] at h
  have hw:∀x∈w::ws,isWordS x=true:=fun x hx=>by
   unfold badWords at hb
   rw [List.any_eq_false] at hb
   have:=hb x hx
   simpa using this
  simp only [List.getD_cons_zero,List.tail_cons] at h
  cases hf:strEq (formS w) (bs []) with
  |true=>rw [hf,cond_true] at h;exact absurd h (by decide)
  |false =>
  rw [hf,cond_false] at h
  cases hg:formedS ws (formS w)&&noFail w ws with
  |false=>rw [hg,cond_false] at h;exact absurd h (by decide)
  |true =>
  rw [Bool.and_eq_true] at hg
  obtain ⟨hg,hn⟩:=hg
  clear h
  by_cases e:w=bs [106,111,105,110]
  ·subst e
   rw [show formS (bs [106,111,105,110])=bs [112,112,43] by decide +kernel] at hg
   obtain ⟨p,q,l,rfl,hp⟩:=form_join hg
   exact ⟨.join p q l,rfl,hw,hl,hp,trivial⟩
  by_cases e:w=bs [115,111,114,116]
  ·subst e
   rw [show formS (bs [115,111,114,116])=bs [112,112] by decide +kernel] at hg
   obtain ⟨p,q,rfl,hp⟩:=form_pp hg
   exact ⟨.sort p q,rfl,hw,hl,hp,trivial⟩
  by_cases e:w=bs [99,111,117,110,116]
  ·subst e
   rw [show formS (bs [99,111,117,110,116])=bs [112,112] by decide +kernel] at hg
   obtain ⟨p,q,rfl,hp⟩:=form_pp hg
   exact ⟨.count p q,rfl,hw,hl,hp,trivial⟩
  by_cases e:w=bs [101,120,112,97,110,100]
  ·subst e
   rw [show formS (bs [101,120,112,97,110,100])=bs [112,112] by decide +kernel] at hg
   obtain ⟨p,q,rfl,hp⟩:=form_pp hg
   exact ⟨.expand p q,rfl,hw,hl,hp,trivial⟩
  by_cases e:w=bs [109,97,107,101]
  ·subst e
   rw [show formS (bs [109,97,107,101])=bs [112,112] by decide +kernel] at hg
   obtain ⟨p,q,rfl,hp⟩:=form_pp hg
   exact ⟨.make p q,rfl,hw,hl,hp,trivial⟩
  by_cases e:w=bs [100,105,103,101,115,116]
  ·subst e
   rw [show formS (bs [100,105,103,101,115,116])=bs [112,112] by decide +kernel] at hg
   obtain ⟨p,q,rfl,hp⟩:=form_pp hg
   exact ⟨.digest p q,rfl,hw,hl,hp,trivial⟩
  by_cases e:w=bs [108,105,115,116]
  ·subst e
   rw [show formS (bs [108,105,115,116])=bs [112,112] by decide +kernel] at hg
   obtain ⟨p,q,rfl,hp⟩:=form_pp hg
   exact ⟨.list p q,rfl,hw,hl,hp,trivial⟩
  by_cases e:w=bs [102,105,114,115,116]
  ·subst e
   rw [show formS (bs [102,105,114,115,116])=bs [112,110,112] by decide +kernel] at hg
   obtain ⟨p,n,q,rfl,hq,hp⟩:=form_pnp hg
   exact ⟨.first p n q,rfl,hw,hl,hp,hq⟩
  by_cases e:w=bs [99,104,97,110,103,101]
  ·subst e
   rw [show formS (bs [99,104,97,110,103,101])=bs [112,119,119,112] by decide +kernel] at hg
   obtain ⟨p,m,r,q,rfl,hp⟩:=form_pwwp hg
   exact ⟨.change p m r q,rfl,hw,hl,hp,trivial⟩
  by_cases e:w=bs [112,105,99,107]
  ·subst e
   rw [show formS (bs [112,105,99,107])=bs [112,112,112,43] by decide +kernel] at hg
   obtain ⟨p,q,r,l,rfl,hp⟩:=form_pick hg
   exact ⟨.pick p q r l,rfl,hw,hl,hp,trivial⟩
  by_cases e:w=bs [118,97,114]
  ·subst e
   rw [show formS (bs [118,97,114])=bs [112,119] by decide +kernel] at hg
   obtain ⟨p,v,rfl,hp⟩:=form_pw hg
   exact ⟨.var p v,rfl,hw,hl,hp,trivial⟩
  by_cases e:w=bs [116,101,108,108]
  ·subst e
   rw [show formS (bs [116,101,108,108])=bs [119,43] by decide +kernel] at hg
   obtain ⟨v,l,rfl⟩:=form_w hg
   exact ⟨.tell v l,rfl,hw,hl,fun p hp=>(by cases hp),trivial⟩
  by_cases e:w=bs [110,101,101,100]
  ·subst e
   rw [show formS (bs [110,101,101,100])=bs [112] by decide +kernel] at hg
   obtain ⟨p,rfl,hp⟩:=form_p hg
   exact ⟨.need p,rfl,hw,hl,hp,trivial⟩
  by_cases e:w=bs [115,97,109,101]
  ·subst e
   rw [show formS (bs [115,97,109,101])=bs [112,112] by decide +kernel] at hg
   obtain ⟨p,q,rfl,hp⟩:=form_pp hg
   exact ⟨.same p q,rfl,hw,hl,hp,trivial⟩
  by_cases e:w=bs [102,97,105,108]
  ·subst e
   rw [show formS (bs [102,97,105,108])=bs [110] by decide +kernel] at hg
   obtain ⟨n,rfl,hq⟩:=form_n hg
   refine ⟨.fail n,rfl,hw,hl,fun p hp=>(by cases hp),hq,?_⟩
   unfold noFail at hn
   rw [show strEq (bs [102,97,105,108]) (bs [102,97,105,108])=true by decide +kernel,Bool.true_and] at hn
   simpa using hn
  ·exfalso
   have:formS w=bs []:=by
    unfold formS
    simp only [strEq_dec]
    simp only [*,decide_false,cond_false]
   rw [this] at hf
   exact absurd hf (by decide +kernel)
def optT (c:Int):Option ByteArray×Wk→Int×ByteArray×Wk
 | (some b,s)=>(0,b,s)
 | (none,s)=>(c,bs [],s)
def mapT (f:ByteArray→ByteArray):Option ByteArray×Wk→Int×ByteArray×Wk
 | (some b,s)=>(0,f b,s)
 | (none,s)=>(2,bs [],s)
def countS (b:ByteArray):ByteArray:=itoaS ((linesS b).length:Int)++bs [10]
def firstS (n:ByteArray) (b:ByteArray):ByteArray:=joinN ((linesS b).take (min (numV n).toNat (linesS b).length))
def madeS (k:Nat) (a:Act):Cm→Wk→Int×ByteArray×Wk
 | .join _ q l,s=>optT 2 (joinedS (bs []) (q::l) s)
 | .expand _ q,s=>((expS k [] q ⟨s,bs [],0⟩).1,(expS k [] q ⟨s,bs [],0⟩).2.out,(expS k [] q ⟨s,bs [],0⟩).2.wk)
 | .pick _ q r l,s=>optT 2 (pickS (q::r::l) s)
 | .list _ q,s=>(0,(listS s q).1,(listS s q).2)
 | .var _ w,s=>optT 4 (valueS a w,s)
 | .sort _ q,s=>mapT sortLS (readS s q)
 | .count _ q,s=>mapT countS (readS s q)
 | .first _ n q,s=>mapT (firstS n) (readS s q)
 | .change _ m r q,s=>mapT (fun b=>repS b m r) (readS s q)
 | .digest _ q,s=>mapT (fun b=>digestS b++bs [10]) (readS s q)
 | .make _ q,s=>mapT (fun b=>b) (readS s q)
 |_,s=>(0,bs [],s)
def Cm.out:Cm→ByteArray
 | .join p _ _=>p
 | .expand p _=>p
 | .pick p _ _ _=>p
 | .list p _=>p
 | .var p _=>p
 | .sort p _=>p
 | .count p _=>p
 | .first p _ _=>p
 | .change p _ _ _=>p
 | .digest p _=>p
 | .make p _=>p
 |_=>bs []
def Cm.run:Cm→Bool
 | .make _ _=>true
 |_=>false
def wrS (k:Nat) (a:Act) (m:Cm) (s:Wk):Int×Wk:=cond ((madeS k a m s).1==0) (writeS a (madeS k a m s).2.2 m.out (madeS k a m s).2.1 m.run) ((madeS k a m s).1,(madeS k a m s).2.2)
def doCm (k:Nat) (a:Act):Cm→Wk→Int×Wk
 | .tell w l,s=>tellS s (w::l)
 | .need p,s=>((outT 2 (readS s p).1).2.1,(readS s p).2)
 | .same p q,s=>sameS s p q
 | .fail n,s=>(numV n,s)
 |m,s=>wrS k a m s
def runL (k:Nat) (a:Act):List Cm→Nat→Wk→Int×Int×Wk
 |[],_,s=>(cond (decide (s.wr.length<a.outs.length)) 1 0,0,s)
 |m::ms,i,s=>cond ((doCm k a m s).1==0) (runL k a ms (i+1) (doCm k a m s).2) ((doCm k a m s).1,((i+1:Nat):Int),(doCm k a m s).2)
end
end Go.Lm
set_option maxRecDepth 100000
namespace Go.Lm
section
variable {R:Type}
theorem E.join_tell:strEq (bs [106,111,105,110]) (bs [116,101,108,108])=false:=by decide +kernel
theorem E.join_need:strEq (bs [106,111,105,110]) (bs [110,101,101,100])=false:=by decide +kernel
theorem E.join_same:strEq (bs [106,111,105,110]) (bs [115,97,109,101])=false:=by decide +kernel
theorem E.join_fail:strEq (bs [106,111,105,110]) (bs [102,97,105,108])=false:=by decide +kernel
theorem E.join_make:strEq (bs [106,111,105,110]) (bs [109,97,107,101])=false:=by decide +kernel
theorem E.join_join:strEq (bs [106,111,105,110]) (bs [106,111,105,110])=true:=by decide +kernel
theorem E.expand_tell:strEq (bs [101,120,112,97,110,100]) (bs [116,101,108,108])=false:=by decide +kernel
theorem E.expand_need:strEq (bs [101,120,112,97,110,100]) (bs [110,101,101,100])=false:=by decide +kernel
theorem E.expand_same:strEq (bs [101,120,112,97,110,100]) (bs [115,97,109,101])=false:=by decide +kernel
theorem E.expand_fail:strEq (bs [101,120,112,97,110,100]) (bs [102,97,105,108])=false:=by decide +kernel
theorem E.expand_make:strEq (bs [101,120,112,97,110,100]) (bs [109,97,107,101])=false:=by decide +kernel
theorem E.expand_join:strEq (bs [101,120,112,97,110,100]) (bs [106,111,105,110])=false:=by decide +kernel
theorem E.expand_expand:strEq (bs [101,120,112,97,110,100]) (bs [101,120,112,97,110,100])=true:=by decide +kernel
theorem E.pick_tell:strEq (bs [112,105,99,107]) (bs [116,101,108,108])=false:=by decide +kernel
theorem E.pick_need:strEq (bs [112,105,99,107]) (bs [110,101,101,100])=false:=by decide +kernel
theorem E.pick_same:strEq (bs [112,105,99,107]) (bs [115,97,109,101])=false:=by decide +kernel
theorem E.pick_fail:strEq (bs [112,105,99,107]) (bs [102,97,105,108])=false:=by decide +kernel
theorem E.pick_make:strEq (bs [112,105,99,107]) (bs [109,97,107,101])=false:=by decide +kernel
theorem E.pick_join:strEq (bs [112,105,99,107]) (bs [106,111,105,110])=false:=by decide +kernel
theorem E.pick_expand:strEq (bs [112,105,99,107]) (bs [101,120,112,97,110,100])=false:=by decide +kernel
theorem E.pick_pick:strEq (bs [112,105,99,107]) (bs [112,105,99,107])=true:=by decide +kernel
theorem E.list_tell:strEq (bs [108,105,115,116]) (bs [116,101,108,108])=false:=by decide +kernel
theorem E.list_need:strEq (bs [108,105,115,116]) (bs [110,101,101,100])=false:=by decide +kernel
theorem E.list_same:strEq (bs [108,105,115,116]) (bs [115,97,109,101])=false:=by decide +kernel
theorem E.list_fail:strEq (bs [108,105,115,116]) (bs [102,97,105,108])=false:=by decide +kernel
theorem E.list_make:strEq (bs [108,105,115,116]) (bs [109,97,107,101])=false:=by decide +kernel
theorem E.list_join:strEq (bs [108,105,115,116]) (bs [106,111,105,110])=false:=by decide +kernel
theorem E.list_expand:strEq (bs [108,105,115,116]) (bs [101,120,112,97,110,100])=false:=by decide +kernel
theorem E.list_pick:strEq (bs [108,105,115,116]) (bs [112,105,99,107])=false:=by decide +kernel
theorem E.list_list:strEq (bs [108,105,115,116]) (bs [108,105,115,116])=true:=by decide +kernel
theorem E.var_tell:strEq (bs [118,97,114]) (bs [116,101,108,108])=false:=by decide +kernel
theorem E.var_need:strEq (bs [118,97,114]) (bs [110,101,101,100])=false:=by decide +kernel
theorem E.var_same:strEq (bs [118,97,114]) (bs [115,97,109,101])=false:=by decide +kernel
theorem E.var_fail:strEq (bs [118,97,114]) (bs [102,97,105,108])=false:=by decide +kernel
theorem E.var_make:strEq (bs [118,97,114]) (bs [109,97,107,101])=false:=by decide +kernel
theorem E.var_join:strEq (bs [118,97,114]) (bs [106,111,105,110])=false:=by decide +kernel
theorem E.var_expand:strEq (bs [118,97,114]) (bs [101,120,112,97,110,100])=false:=by decide +kernel
theorem E.var_pick:strEq (bs [118,97,114]) (bs [112,105,99,107])=false:=by decide +kernel
theorem E.var_list:strEq (bs [118,97,114]) (bs [108,105,115,116])=false:=by decide +kernel
theorem E.var_var:strEq (bs [118,97,114]) (bs [118,97,114])=true:=by decide +kernel
theorem E.sort_tell:strEq (bs [115,111,114,116]) (bs [116,101,108,108])=false:=by decide +kernel
theorem E.sort_need:strEq (bs [115,111,114,116]) (bs [110,101,101,100])=false:=by decide +kernel
theorem E.sort_same:strEq (bs [115,111,114,116]) (bs [115,97,109,101])=false:=by decide +kernel
theorem E.sort_fail:strEq (bs [115,111,114,116]) (bs [102,97,105,108])=false:=by decide +kernel
theorem E.sort_make:strEq (bs [115,111,114,116]) (bs [109,97,107,101])=false:=by decide +kernel
theorem E.sort_join:strEq (bs [115,111,114,116]) (bs [106,111,105,110])=false:=by decide +kernel
theorem E.sort_expand:strEq (bs [115,111,114,116]) (bs [101,120,112,97,110,100])=false:=by decide +kernel
theorem E.sort_pick:strEq (bs [115,111,114,116]) (bs [112,105,99,107])=false:=by decide +kernel
theorem E.sort_list:strEq (bs [115,111,114,116]) (bs [108,105,115,116])=false:=by decide +kernel
theorem E.sort_var:strEq (bs [115,111,114,116]) (bs [118,97,114])=false:=by decide +kernel
theorem E.sort_sort:strEq (bs [115,111,114,116]) (bs [115,111,114,116])=true:=by decide +kernel
theorem E.count_tell:strEq (bs [99,111,117,110,116]) (bs [116,101,108,108])=false:=by decide +kernel
theorem E.count_need:strEq (bs [99,111,117,110,116]) (bs [110,101,101,100])=false:=by decide +kernel
theorem E.count_same:strEq (bs [99,111,117,110,116]) (bs [115,97,109,101])=false:=by decide +kernel
theorem E.count_fail:strEq (bs [99,111,117,110,116]) (bs [102,97,105,108])=false:=by decide +kernel
theorem E.count_make:strEq (bs [99,111,117,110,116]) (bs [109,97,107,101])=false:=by decide +kernel
theorem E.count_join:strEq (bs [99,111,117,110,116]) (bs [106,111,105,110])=false:=by decide +kernel
theorem E.count_expand:strEq (bs [99,111,117,110,116]) (bs [101,120,112,97,110,100])=false:=by decide +kernel
theorem E.count_pick:strEq (bs [99,111,117,110,116]) (bs [112,105,99,107])=false:=by decide +kernel
theorem E.count_list:strEq (bs [99,111,117,110,116]) (bs [108,105,115,116])=false:=by decide +kernel
theorem E.count_var:strEq (bs [99,111,117,110,116]) (bs [118,97,114])=false:=by decide +kernel
theorem E.count_sort:strEq (bs [99,111,117,110,116]) (bs [115,111,114,116])=false:=by decide +kernel
theorem E.count_count:strEq (bs [99,111,117,110,116]) (bs [99,111,117,110,116])=true:=by decide +kernel
theorem E.first_tell:strEq (bs [102,105,114,115,116]) (bs [116,101,108,108])=false:=by decide +kernel
theorem E.first_need:strEq (bs [102,105,114,115,116]) (bs [110,101,101,100])=false:=by decide +kernel
theorem E.first_same:strEq (bs [102,105,114,115,116]) (bs [115,97,109,101])=false:=by decide +kernel
theorem E.first_fail:strEq (bs [102,105,114,115,116]) (bs [102,97,105,108])=false:=by decide +kernel
theorem E.first_make:strEq (bs [102,105,114,115,116]) (bs [109,97,107,101])=false:=by decide +kernel
theorem E.first_join:strEq (bs [102,105,114,115,116]) (bs [106,111,105,110])=false:=by decide +kernel
theorem E.first_expand:strEq (bs [102,105,114,115,116]) (bs [101,120,112,97,110,100])=false:=by decide +kernel
theorem E.first_pick:strEq (bs [102,105,114,115,116]) (bs [112,105,99,107])=false:=by decide +kernel
theorem E.first_list:strEq (bs [102,105,114,115,116]) (bs [108,105,115,116])=false:=by decide +kernel
theorem E.first_var:strEq (bs [102,105,114,115,116]) (bs [118,97,114])=false:=by decide +kernel
theorem E.first_sort:strEq (bs [102,105,114,115,116]) (bs [115,111,114,116])=false:=by decide +kernel
theorem E.first_count:strEq (bs [102,105,114,115,116]) (bs [99,111,117,110,116])=false:=by decide +kernel
theorem E.first_first:strEq (bs [102,105,114,115,116]) (bs [102,105,114,115,116])=true:=by decide +kernel
theorem E.change_tell:strEq (bs [99,104,97,110,103,101]) (bs [116,101,108,108])=false:=by decide +kernel
theorem E.change_need:strEq (bs [99,104,97,110,103,101]) (bs [110,101,101,100])=false:=by decide +kernel
theorem E.change_same:strEq (bs [99,104,97,110,103,101]) (bs [115,97,109,101])=false:=by decide +kernel
theorem E.change_fail:strEq (bs [99,104,97,110,103,101]) (bs [102,97,105,108])=false:=by decide +kernel
theorem E.change_make:strEq (bs [99,104,97,110,103,101]) (bs [109,97,107,101])=false:=by decide +kernel
theorem E.change_join:strEq (bs [99,104,97,110,103,101]) (bs [106,111,105,110])=false:=by decide +kernel
theorem E.change_expand:strEq (bs [99,104,97,110,103,101]) (bs [101,120,112,97,110,100])=false:=by decide +kernel
theorem E.change_pick:strEq (bs [99,104,97,110,103,101]) (bs [112,105,99,107])=false:=by decide +kernel
theorem E.change_list:strEq (bs [99,104,97,110,103,101]) (bs [108,105,115,116])=false:=by decide +kernel
theorem E.change_var:strEq (bs [99,104,97,110,103,101]) (bs [118,97,114])=false:=by decide +kernel
theorem E.change_sort:strEq (bs [99,104,97,110,103,101]) (bs [115,111,114,116])=false:=by decide +kernel
theorem E.change_count:strEq (bs [99,104,97,110,103,101]) (bs [99,111,117,110,116])=false:=by decide +kernel
theorem E.change_first:strEq (bs [99,104,97,110,103,101]) (bs [102,105,114,115,116])=false:=by decide +kernel
theorem E.change_change:strEq (bs [99,104,97,110,103,101]) (bs [99,104,97,110,103,101])=true:=by decide +kernel
theorem E.digest_tell:strEq (bs [100,105,103,101,115,116]) (bs [116,101,108,108])=false:=by decide +kernel
theorem E.digest_need:strEq (bs [100,105,103,101,115,116]) (bs [110,101,101,100])=false:=by decide +kernel
theorem E.digest_same:strEq (bs [100,105,103,101,115,116]) (bs [115,97,109,101])=false:=by decide +kernel
theorem E.digest_fail:strEq (bs [100,105,103,101,115,116]) (bs [102,97,105,108])=false:=by decide +kernel
theorem E.digest_make:strEq (bs [100,105,103,101,115,116]) (bs [109,97,107,101])=false:=by decide +kernel
theorem E.digest_join:strEq (bs [100,105,103,101,115,116]) (bs [106,111,105,110])=false:=by decide +kernel
theorem E.digest_expand:strEq (bs [100,105,103,101,115,116]) (bs [101,120,112,97,110,100])=false:=by decide +kernel
theorem E.digest_pick:strEq (bs [100,105,103,101,115,116]) (bs [112,105,99,107])=false:=by decide +kernel
theorem E.digest_list:strEq (bs [100,105,103,101,115,116]) (bs [108,105,115,116])=false:=by decide +kernel
theorem E.digest_var:strEq (bs [100,105,103,101,115,116]) (bs [118,97,114])=false:=by decide +kernel
theorem E.digest_sort:strEq (bs [100,105,103,101,115,116]) (bs [115,111,114,116])=false:=by decide +kernel
theorem E.digest_count:strEq (bs [100,105,103,101,115,116]) (bs [99,111,117,110,116])=false:=by decide +kernel
theorem E.digest_first:strEq (bs [100,105,103,101,115,116]) (bs [102,105,114,115,116])=false:=by decide +kernel
theorem E.digest_change:strEq (bs [100,105,103,101,115,116]) (bs [99,104,97,110,103,101])=false:=by decide +kernel
theorem E.digest_digest:strEq (bs [100,105,103,101,115,116]) (bs [100,105,103,101,115,116])=true:=by decide +kernel
theorem E.make_tell:strEq (bs [109,97,107,101]) (bs [116,101,108,108])=false:=by decide +kernel
theorem E.make_need:strEq (bs [109,97,107,101]) (bs [110,101,101,100])=false:=by decide +kernel
theorem E.make_same:strEq (bs [109,97,107,101]) (bs [115,97,109,101])=false:=by decide +kernel
theorem E.make_fail:strEq (bs [109,97,107,101]) (bs [102,97,105,108])=false:=by decide +kernel
theorem E.make_make:strEq (bs [109,97,107,101]) (bs [109,97,107,101])=true:=by decide +kernel
theorem E.make_join:strEq (bs [109,97,107,101]) (bs [106,111,105,110])=false:=by decide +kernel
theorem E.make_expand:strEq (bs [109,97,107,101]) (bs [101,120,112,97,110,100])=false:=by decide +kernel
theorem E.make_pick:strEq (bs [109,97,107,101]) (bs [112,105,99,107])=false:=by decide +kernel
theorem E.make_list:strEq (bs [109,97,107,101]) (bs [108,105,115,116])=false:=by decide +kernel
theorem E.make_var:strEq (bs [109,97,107,101]) (bs [118,97,114])=false:=by decide +kernel
theorem E.make_sort:strEq (bs [109,97,107,101]) (bs [115,111,114,116])=false:=by decide +kernel
theorem E.make_count:strEq (bs [109,97,107,101]) (bs [99,111,117,110,116])=false:=by decide +kernel
theorem E.make_first:strEq (bs [109,97,107,101]) (bs [102,105,114,115,116])=false:=by decide +kernel
theorem E.make_change:strEq (bs [109,97,107,101]) (bs [99,104,97,110,103,101])=false:=by decide +kernel
theorem E.make_digest:strEq (bs [109,97,107,101]) (bs [100,105,103,101,115,116])=false:=by decide +kernel
theorem E.tell_tell:strEq (bs [116,101,108,108]) (bs [116,101,108,108])=true:=by decide +kernel
theorem E.need_tell:strEq (bs [110,101,101,100]) (bs [116,101,108,108])=false:=by decide +kernel
theorem E.need_need:strEq (bs [110,101,101,100]) (bs [110,101,101,100])=true:=by decide +kernel
theorem E.same_tell:strEq (bs [115,97,109,101]) (bs [116,101,108,108])=false:=by decide +kernel
theorem E.same_need:strEq (bs [115,97,109,101]) (bs [110,101,101,100])=false:=by decide +kernel
theorem E.same_same:strEq (bs [115,97,109,101]) (bs [115,97,109,101])=true:=by decide +kernel
theorem E.fail_tell:strEq (bs [102,97,105,108]) (bs [116,101,108,108])=false:=by decide +kernel
theorem E.fail_need:strEq (bs [102,97,105,108]) (bs [110,101,101,100])=false:=by decide +kernel
theorem E.fail_same:strEq (bs [102,97,105,108]) (bs [115,97,109,101])=false:=by decide +kernel
theorem E.fail_fail:strEq (bs [102,97,105,108]) (bs [102,97,105,108])=true:=by decide +kernel
theorem drop2_at (w p:ByteArray) (ws:List ByteArray) (K:List LV→Option R):slL ((w::p::ws).map LV.str) 2 (((w::p::ws).map LV.str).length:Int) K=K (ws.map .str):=by
 unfold slL
 rw [ifB_pos ⟨by omega,by simp;omega,by simp⟩]
 simp only [Int.toNat_natCast]
 rw [List.take_of_length_le (Nat.le_refl _)]
 rfl
theorem last3 (a b c:ByteArray) (K:LV→Option R):idxL ([a,b,c].map LV.str) (IntKind.wrap .i64 ((([a,b,c].map LV.str).length:Int)-1)) K=K (.str c):=by
 rw [show (([a,b,c].map LV.str).length:Int)=3 from rfl,show IntKind.wrap .i64 ((3:Int)-1)=2 from by decide +kernel]
 exact idx_str2 a b c [] K
theorem last4 (a b c d:ByteArray) (K:LV→Option R):idxL ([a,b,c,d].map LV.str) (IntKind.wrap .i64 ((([a,b,c,d].map LV.str).length:Int)-1)) K=K (.str d):=by
 rw [show (([a,b,c,d].map LV.str).length:Int)=4 from rfl,show IntKind.wrap .i64 ((4:Int)-1)=3 from by decide +kernel]
 exact idx_str3 a b c d [] K
theorem last5 (a b c d e:ByteArray) (K:LV→Option R):idxL ([a,b,c,d,e].map LV.str) (IntKind.wrap .i64 ((([a,b,c,d,e].map LV.str).length:Int)-1)) K=K (.str e):=by
 rw [show (([a,b,c,d,e].map LV.str).length:Int)=5 from rfl,show IntKind.wrap .i64 ((5:Int)-1)=4 from by decide +kernel]
 exact idxL_nat (xs:=[a,b,c,d,e].map LV.str) (i:=4) (by simp) K
theorem glob_grow {a:Act} {I:Ids} {S S':List LV} {s:Wk} (h:WkAt a I S s) (hg:Grow I S S') {id k:Nat} {ob:Obj} (hi:S.getD id .any = .glob k ob):S'.getD id .any = .glob k ob:=by
 rw [hg.old id (getD_lt hi (by simp)) (fun e=>by rw [e,h.o] at hi;cases hi) (fun e=>by rw [e,h.l] at hi;cases hi) (fun e=>by rw [e,h.w] at hi;cases hi)]
 exact hi
structure GlobOk (S:List LV):Prop where
 num:HasNum S H.maxG
 pow:HasPow S
theorem GlobOk.grow {a:Act} {I:Ids} {S S':List LV} {s:Wk} (g:GlobOk S) (h:WkAt a I S s) (hg:Grow I S S'):GlobOk S':=by
 obtain ⟨i,e,fz,n,h1⟩:=g.num
 obtain ⟨j,e2,fz2,h2⟩:=g.pow
 exact ⟨⟨i,e,fz,n,glob_grow h hg h1⟩,⟨j,e2,fz2,glob_grow h hg h2⟩⟩
theorem WkOk.of {s s':Wk} (h:WkOk s) (h1:s'.inp=s.inp) (h2:s'.wr=s.wr):WkOk s':=⟨by rw [h1];exact h.inp,by rw [h2];exact h.wr⟩
theorem WkP.of {s s':Wk} (h:WkP s) (h1:s'.inp=s.inp) (h2:s'.wr=s.wr):WkP s':=⟨by rw [h1];exact h.inp,by rw [h2];exact h.wr⟩
theorem joinedS_size {s:Wk} (h:WkOk s):∀(l:List ByteArray) (acc:ByteArray) (s':Wk),WkOk s'→∀b,(joinedS acc l s').1=some b→b.size≤acc.size+l.length*100000
 |[],acc,s',_,b,hb=>by
  unfold joinedS at hb
  cases hb
  omega
 |p::ps,acc,s',hs,b,hb=>by
  unfold joinedS at hb
  cases hf:(findS s' p).1 with
  |none=>rw [hf] at hb;cases hb
  |some f =>
   rw [hf] at hb
   have h1:=joinedS_size h ps _ _ (hs.find p) b hb
   have h2:=hs.found hf
   rw [ByteArray.size_append] at h1
   rw [List.length_cons]
   omega
theorem pickS_size:∀(l:List ByteArray) (s:Wk),WkOk s→∀b,(pickS l s).1=some b→b.size≤100000
 |[],s,_,b,hb=>by cases hb
 |p::ps,s,hs,b,hb=>by
  unfold pickS at hb
  cases hf:(findS s p).1 with
  |none=>rw [hf] at hb;exact pickS_size ps _ (hs.find p) b hb
  |some f =>
   rw [hf] at hb
   cases hb
   exact hs.found hf
theorem readS_size {s:Wk} (hs:WkOk s) {p b:ByteArray} (h:(readS s p).1=some b):b.size≤100000:=by
 unfold readS at h
 dsimp only at h
 cases hf:(findS s p).1 with
 |none=>rw [hf] at h;cases h
 |some g=>rw [hf] at h;cases h;exact hs.found hf
theorem valueS_size {a:Act} (ha:ActFine a) {w b:ByteArray} (h:valueS a w=some b):b.size≤100001:=by
 unfold valueS at h
 refine scan_pred (P:=fun o=>∀b,o=some b→b.size≤100001) (fun j r hr b hb=>?_) (fun b hb=>by cases hb) _ _ b h
 cases hq:strEq (a.vars.getD j varZ).1 w with
 |false=>rw [hq] at hr;cases hr
 |true =>
  rw [hq] at hr
  cases hr
  cases hb
  have e1:(bs [10]).size=1:=rfl
  rw [ByteArray.size_append,e1]
  by_cases hj:j<a.vars.length
  ·have:=ha.vars.2 _ (mem_get (z:=varZ) hj);omega
  ·rw [List.getD_eq_getElem?_getD,List.getElem?_eq_none (by omega)]
   decide
theorem digestS_size (b:ByteArray):(digestS b).size=16:=by
 unfold digestS
 rw [←ba_len]
 simp
theorem countS_size (b:ByteArray) (hb:b.size≤100000):(countS b).size≤22:=by
 unfold countS
 have h1:=linesS_len b
 have:=itoa_len ((linesS b).length:Int) (by omega) (by omega)
 have e1:(bs [10]).size=1:=rfl
 rw [ByteArray.size_append,e1];omega
theorem firstS_size (n b:ByteArray) (hb:b.size≤100000):(firstS n b).size≤140737488355328:=by
 unfold firstS
 have h1:=linesS_len b
 have h2:=joinN_size ((linesS b).take (min (numV n).toNat (linesS b).length)) (fun x hx=>by have:=linesS_size (List.mem_of_mem_take hx);omega)
 rw [List.length_take] at h2
 have h3:(min (min (numV n).toNat (linesS b).length) (linesS b).length+1)*100000≤100001*100000:=Nat.mul_le_mul_right _ (by omega)
 omega
theorem repS_size (b m r:ByteArray) (hb:b.size≤100000) (hm:1≤m.size) (hr:r.size≤100000):(repS b m r).size≤140737488355328:=by
 unfold repS
 rw [ofL_size]
 have h1:=repL_len (m:=toL m) (r:=toL r) ((toL b).length+1) (toL b)
 have h2:Lib.count (toL b) (toL m)≤(toL b).length:=by
  unfold Lib.count
  exact countFrom_le (by rw [toL_len];exact hm) _ _
 have hc:∃f,Lib.count (toL b) (toL m)=Lib.countFrom (toL m) f (toL b):=⟨_,rfl⟩
 obtain ⟨f,hf⟩:=hc
 have h3:=repL_len (m:=toL m) (r:=toL r) f (toL b)
 rw [hf] at h2 ⊢
 generalize Lib.countFrom (toL m) f (toL b)=c at h2 h3 ⊢
 rw [toL_len,toL_len,toL_len] at h3
 rw [toL_len] at h2
 have h4:(c:Int)*((r.size:Int)-m.size)≤100000*100000:=by
  have h5:(c:Int)*((r.size:Int)-m.size)≤(c:Int)*100000:=Int.mul_le_mul_of_nonneg_left (by omega) (by omega)
  omega
 omega
theorem q0_none (k:Nat) (xs:List LV) (S:List LV) (K:OT→List LV→Option R):G.Qbf.q0 k K (xs,outT 2 none) S=K ([],2,()) S:=rfl
theorem q0_some (k:Nat) (w:ByteArray) (ws:List ByteArray) (b:ByteArray) (S:List LV) (K:OT→List LV→Option R):G.Qbf.q0 k K ((w::ws).map .str,outT 2 (some b)) S =
  G.Qbf.q4 k (fun o S=>G.Qbf.q11 k K o S) K ((w::ws).map .str,bytesL b,w,(strEq w (bs [115,111,114,116])),()) S:=by
 unfold G.Qbf.q0 G.Qbf.q1 outT
 dsimp only
 rw [show ((0:Int) != 0)=false from rfl,ifB_false]
 unfold G.Qbf.q2
 dsimp only
 rw [idx_str0,asLeaf_str]
 rfl
theorem made_read {k:Nat} (hk:Many k) {a:Act} {I:Ids} {S:List LV} {s:Wk} (h:WkAt a I S s) (hs:WkOk s) (hg:GlobOk S) (w q:ByteArray) (ws:List ByteArray) (f:ByteArray→ByteArray)
  (hfn:∀{R:Type} (K:OT→List LV→Option R),G.Qbf.fn k ((I.w,0),(w::ws).map .str,()) S K=G.Qbh.fn k ((I.w,0),q,()) S fun r21 S=>G.Qbf.q0 k K ((w::ws).map .str,r21) S)
  (hf:∀b,b.size≤100000→(f b).size≤140737488355328)
  (hq:∀(b:ByteArray) (S1:List LV),b.size≤100000→GlobOk S1→∀{R:Type} (K:OT→List LV→Option R),G.Qbf.q4 k (fun o S=>G.Qbf.q11 k K o S) K ((w::ws).map .str,bytesL b,w,(strEq w (bs [115,111,114,116])),()) S1=K (bytesL (f b),0,()) S1) :
  ∃S',WkAt a I S' (mapT f (readS s q)).2.2∧Grow I S S'∧((mapT f (readS s q)).1=0→(mapT f (readS s q)).2.1.size≤140737488355328) ∧
   ∀{R:Type} (K:OT→List LV→Option R),G.Qbf.fn k ((I.w,0),(w::ws).map .str,()) S K=K (bytesL (mapT f (readS s q)).2.1,(mapT f (readS s q)).1,()) S':=by
 obtain ⟨S1,h1,h2,h3⟩:=read_at hk h hs q
 have hg1:=hg.grow h h2
 have hsz:=fun b=>readS_size hs (p:=q) (b:=b)
 generalize readS s q=r at h1 h3 hsz ⊢
 obtain ⟨o,s1⟩:=r
 cases o with
 |none =>
  refine ⟨S1,h1,h2,fun e=>(by cases e),fun {R} K=>?_⟩
  rw [hfn,h3]
  exact q0_none k _ S1 K
 |some b =>
  refine ⟨S1,h1,h2,fun _=>hf b (hsz b rfl),fun {R} K=>?_⟩
  rw [hfn,h3]
  show G.Qbf.q0 k K ((w::ws).map .str,outT 2 (some b)) S1=_
  rw [q0_some]
  exact hq b S1 (hsz b rfl) hg1 K
theorem num_nat (n:ByteArray):numV n=((numV n).toNat:Int):=by
 unfold numV;omega
theorem expand_at2 {k:Nat} (hk:Many k) {a:Act} {I:Ids} {S:List LV} {s:Wk} (h:WkAt a I S s) (hs:WkOk s) (p:ByteArray) :
  ∃S',ExAt a I S.length S' (expS k [] p ⟨s,bs [],0⟩).2∧GrowE I S.length (S++[exC I .nilsl 0]) S'∧((expS k [] p ⟨s,bs [],0⟩).1=0→EsOk (expS k [] p ⟨s,bs [],0⟩).2) ∧
   ∀{R:Type} (K:Int×Unit→List LV→Option R),G.Qaq.fn k ((S.length,0),p,[],()) (S++[exC I .nilsl 0]) K=K ((expS k [] p ⟨s,bs [],0⟩).1,()) S':=by
 have hk2:=hk
 unfold Many at hk2
 have hx:ExAt a I S.length (S++[exC I .nilsl 0]) ⟨s,bs [],0⟩:=⟨h.appE _,hs,.nilsl,get_last _ _,.inr ⟨rfl,rfl⟩⟩
 obtain ⟨S',g1,g2,g3,g4⟩:=exp_at hk (e:=S.length) (a:=a) (I:=I) k [] (by simp;omega) (by simp) p _ _ hx ⟨Nat.zero_le _,Nat.zero_le _⟩
 exact ⟨S',g1,g2,g3,fun K=>g4 K⟩
def Cm.mk:Cm→Prop
 | .tell _ _=>False
 | .need _=>False
 | .same _ _=>False
 | .fail _=>False
 |_=>True
theorem made_at {k:Nat} (hk:Many k) {a:Act} (ha:ActFine a) {I:Ids} {S:List LV} {s:Wk} (h:WkAt a I S s) (hs:WkOk s) (hp:WkP s) (hg:GlobOk S) (m:Cm) (ok:m.Ok) (hm:m.mk) :
  ∃S',WkAt a I S' (madeS k a m s).2.2∧Grow I S S'∧((madeS k a m s).1=0→(madeS k a m s).2.1.size≤140737488355328) ∧
   ∀{R:Type} (K:OT→List LV→Option R),G.Qbf.fn k ((I.w,0),m.words.map .str,()) S K=K (bytesL (madeS k a m s).2.1,(madeS k a m s).1,()) S':=by
 have hk2:=hk
 unfold Many at hk2
 have hw:∀w∈m.words,1≤w.size∧w.size≤300:=fun w hw=>by
  have:=ok.word w hw
  unfold isWordS at this
  rw [Bool.and_eq_true,Bool.and_eq_true,decide_eq_true_iff,decide_eq_true_iff] at this
  exact this.2
 have hlen:=ok.len
 cases m with
 |tell w l=>exact absurd hm id
 |need p=>exact absurd hm id
 |same p q=>exact absurd hm id
 |fail n=>exact absurd hm id
 |join p q l =>
  have hl:(q::l).length≤50:=by simp only [Cm.words,List.length_cons] at hlen ⊢;omega
  obtain ⟨S1,h1,h2,h3,h4⟩:=joined_at hk h hs (q::l) (by omega)
  have hsz:=joinedS_size hs (q::l) (bs []) s hs
  have fnE:∀{R:Type} (K:OT→List LV→Option R),G.Qbf.fn k ((I.w,0),(Cm.join p q l).words.map .str,()) S K=G.Qbd.fn k ((I.w,0),(q::l).map .str,()) S K:=fun {R} K=>by
   unfold G.Qbf.fn Cm.words
   dsimp only
   rw [idx_str0,asLeaf_str,E.join_join,ifB_true,drop2_at]
  show ∃S',WkAt a I S' (optT 2 (joinedS (bs []) (q::l) s)).2.2∧Grow I S S'∧((optT 2 (joinedS (bs []) (q::l) s)).1=0→(optT 2 (joinedS (bs []) (q::l) s)).2.1.size≤140737488355328) ∧
   ∀{R:Type} (K:OT→List LV→Option R),G.Qbf.fn k ((I.w,0),(Cm.join p q l).words.map .str,()) S K=K (bytesL (optT 2 (joinedS (bs []) (q::l) s)).2.1,(optT 2 (joinedS (bs []) (q::l) s)).1,()) S'
  generalize joinedS (bs []) (q::l) s=r at h1 h4 hsz ⊢
  obtain ⟨o,s1⟩:=r
  cases o with
  |none=>exact ⟨S1,h1,h3,fun e=>(by cases e),fun {R} K=>by rw [fnE,h4];rfl⟩
  |some b =>
   refine ⟨S1,h1,h3,fun _=>?_,fun {R} K=>by rw [fnE,h4];rfl⟩
   have:=hsz b rfl
   have e:(bs []).size=0:=rfl
   show b.size≤_
   have h5:(q::l).length*100000≤50*100000:=Nat.mul_le_mul_right _ hl
   omega
 |expand p q =>
  obtain ⟨S1,h1,h2,h3,h4⟩:=expand_at2 hk h hs q
  obtain ⟨v,o1,o2⟩:=h1.ob
  refine ⟨S1,h1.wk,⟨?_,fun id g1 g2 g3 g4=>?_⟩,fun e=>?_,fun {R} K=>?_⟩
  ·have:=h2.len
   rw [List.length_append] at this;omega
  ·rw [h2.old id (by rw [List.length_append];omega) g2 g3 g4 (by omega),getD_app_lt _ _ _ _ g1]
  ·have:=(h3 e).out
   show (expS k [] q ⟨s,bs [],0⟩).2.out.size≤_
   omega
  ·unfold G.Qbf.fn Cm.words
   dsimp only
   rw [idx_str0,asLeaf_str,E.expand_join,ifB_false,E.expand_expand,ifB_true]
   unfold newObj
   dsimp only
   rw [idx_str2,asLeaf_str]
   refine (h4 _).trans ?_
   rw [obj_at o1]
   rcases o2 with rfl|⟨rfl,e⟩
   ·rfl
   ·show K ([],_,()) S1=K (bytesL (expS k [] q ⟨s,bs [],0⟩).2.out,_,()) S1
    rw [e];rfl
 |pick p q r l =>
  have hl:(q::r::l).length≤50:=by simp only [Cm.words,List.length_cons] at hlen ⊢;omega
  obtain ⟨S1,h1,h2,h3,h4⟩:=pick_at hk h hs (q::r::l) (by omega)
  have hsz:=pickS_size (q::r::l) s hs
  have fnE:∀{R:Type} (K:OT→List LV→Option R),G.Qbf.fn k ((I.w,0),(Cm.pick p q r l).words.map .str,()) S K=G.Qbg.fn k ((I.w,0),(q::r::l).map .str,()) S K:=fun {R} K=>by
   unfold G.Qbf.fn Cm.words
   dsimp only
   rw [idx_str0,asLeaf_str,E.pick_join,ifB_false,E.pick_expand,ifB_false,E.pick_pick,ifB_true,drop2_at]
  show ∃S',WkAt a I S' (optT 2 (pickS (q::r::l) s)).2.2∧Grow I S S'∧((optT 2 (pickS (q::r::l) s)).1=0→(optT 2 (pickS (q::r::l) s)).2.1.size≤140737488355328) ∧
   ∀{R:Type} (K:OT→List LV→Option R),G.Qbf.fn k ((I.w,0),(Cm.pick p q r l).words.map .str,()) S K=K (bytesL (optT 2 (pickS (q::r::l) s)).2.1,(optT 2 (pickS (q::r::l) s)).1,()) S'
  generalize pickS (q::r::l) s=r at h1 h4 hsz ⊢
  obtain ⟨o,s1⟩:=r
  cases o with
  |none=>exact ⟨S1,h1,h3,fun e=>(by cases e),fun {R} K=>by rw [fnE,h4];rfl⟩
  |some b =>
   refine ⟨S1,h1,h3,fun _=>?_,fun {R} K=>by rw [fnE,h4];rfl⟩
   have:=hsz b rfl
   show b.size≤_
   omega
 |list p q =>
  have hq:=hw q (by simp [Cm.words])
  obtain ⟨S1,h1,h2,h3,h4⟩:=list_at hk h hs hp q (by omega)
  have hsz:=listS_size hp q
  refine ⟨S1,h1,h3,fun _=>?_,fun {R} K=>?_⟩
  ·show (listS s q).1.size≤_;omega
  ·unfold G.Qbf.fn Cm.words
   dsimp only
   rw [idx_str0,asLeaf_str,E.list_join,ifB_false,E.list_expand,ifB_false,E.list_pick,ifB_false,E.list_list,ifB_true,idx_str2,asLeaf_str]
   exact (h4 _).trans rfl
 |var p w =>
  have hsz:=fun b=>valueS_size ha (w:=w) (b:=b)
  have fnE:∀{R:Type} (K:OT→List LV→Option R),G.Qbf.fn k ((I.w,0),(Cm.var p w).words.map .str,()) S K=K (outT 4 (valueS a w)) S:=fun {R} K=>by
   unfold G.Qbf.fn Cm.words
   dsimp only
   rw [idx_str0,asLeaf_str,E.var_join,ifB_false,E.var_expand,ifB_false,E.var_pick,ifB_false,E.var_list,ifB_false,E.var_var,ifB_true,idx_str2,asLeaf_str]
   exact value_at hk ha h w K
  show ∃S',WkAt a I S' (optT 4 (valueS a w,s)).2.2∧Grow I S S'∧((optT 4 (valueS a w,s)).1=0→(optT 4 (valueS a w,s)).2.1.size≤140737488355328) ∧
   ∀{R:Type} (K:OT→List LV→Option R),G.Qbf.fn k ((I.w,0),(Cm.var p w).words.map .str,()) S K=K (bytesL (optT 4 (valueS a w,s)).2.1,(optT 4 (valueS a w,s)).1,()) S'
  generalize valueS a w=o at hsz fnE ⊢
  cases o with
  |none=>exact ⟨S,h,Grow.refl _ _,fun e=>(by cases e),fun {R} K=>by rw [fnE];rfl⟩
  |some b=>exact ⟨S,h,Grow.refl _ _,fun _=>by have:=hsz b rfl;show b.size≤_;omega,fun {R} K=>by rw [fnE];rfl⟩
 |sort p q =>
  refine made_read hk h hs hg _ q _ sortLS (fun {R} K=>?_) (fun b hb=>sortLS_size hb) (fun b S1 hb g1 {R} K=>?_)
  ·unfold G.Qbf.fn
   dsimp only
   rw [idx_str0,asLeaf_str,E.sort_join,ifB_false,E.sort_expand,ifB_false,E.sort_pick,ifB_false,E.sort_list,ifB_false,E.sort_var,ifB_false,last3,asLeaf_str]
  ·unfold G.Qbf.q4
   dsimp only
   rw [E.sort_sort,ifB_true,sortLines_at hk b hb]
 |count p q =>
  refine made_read hk h hs hg _ q _ countS (fun {R} K=>?_) (fun b hb=>by have:=countS_size b hb;omega) (fun b S1 hb g1 {R} K=>?_)
  ·unfold G.Qbf.fn
   dsimp only
   rw [idx_str0,asLeaf_str,E.count_join,ifB_false,E.count_expand,ifB_false,E.count_pick,ifB_false,E.count_list,ifB_false,E.count_var,ifB_false,last3,asLeaf_str]
  ·have h1:=linesS_len b
   have h2:=itoa_len ((linesS b).length:Int) (by omega) (by omega)
   have h3:=countS_size b hb
   have e1:(bs [10]).size=1:=rfl
   unfold G.Qbf.q4 G.Qbf.q5
   dsimp only
   rw [E.count_sort,ifB_false,E.count_count,ifB_true,lines_at hk b (by omega)]
   dsimp only
   rw [List.length_map,Itoa_at k g1.pow _ (by omega) (by omega)]
   dsimp only
   rw [cat_le (by omega)]
   unfold countS at h3
   rw [ifB_pos (by omega)]
   rfl
 |first p n q =>
  refine made_read hk h hs hg _ q _ (firstS n) (fun {R} K=>?_) (fun b hb=>firstS_size n b hb) (fun b S1 hb g1 {R} K=>?_)
  ·unfold G.Qbf.fn
   dsimp only
   rw [idx_str0,asLeaf_str,E.first_join,ifB_false,E.first_expand,ifB_false,E.first_pick,ifB_false,E.first_list,ifB_false,E.first_var,ifB_false,last4,asLeaf_str]
  ·have h1:=linesS_len b
   have h3:=firstS_size n b hb
   unfold G.Qbf.q4 G.Qbf.q5 G.Qbf.q6
   dsimp only
   rw [E.first_sort,ifB_false,E.first_count,ifB_false,E.first_first,ifB_true,idx_str2,asLeaf_str,Atoi_at k (by omega) ok.num]
   unfold G.Qbf.q7
   dsimp only
   rw [lines_at hk b (by omega)]
   unfold G.Qbf.q8
   dsimp only
   rw [List.length_map,num_nat n,minI_nat,slL_take (by rw [List.length_map];omega),←List.map_take,JoinN_at hk _ (by rw [List.length_take];omega) (fun x hx=>by have:=linesS_size (List.mem_of_mem_take hx);omega) (fun x hx=>linesS_pos (List.mem_of_mem_take hx))]
   dsimp only
   unfold firstS at h3
   rw [ifB_pos (by omega)]
   rfl
 |change p m r q =>
  have hm1:=hw m (by simp [Cm.words])
  have hr1:=hw r (by simp [Cm.words])
  refine made_read hk h hs hg _ q _ (fun b=>repS b m r) (fun {R} K=>?_) (fun b hb=>repS_size b m r hb hm1.1 (by omega)) (fun b S1 hb g1 {R} K=>?_)
  ·unfold G.Qbf.fn
   dsimp only
   rw [idx_str0,asLeaf_str,E.change_join,ifB_false,E.change_expand,ifB_false,E.change_pick,ifB_false,E.change_list,ifB_false,E.change_var,ifB_false,last5,asLeaf_str]
  ·unfold G.Qbf.q4 G.Qbf.q5 G.Qbf.q6 G.Qbf.q9
   dsimp only
   rw [E.change_sort,ifB_false,E.change_count,ifB_false,E.change_first,ifB_false,E.change_change,ifB_true,idx_str2,asLeaf_str,ifB_pos (by omega),idx_str3,asLeaf_str,ifB_pos (by omega),replaceAll_at hk b m r hb hm1.1 (by omega) (by omega) S1 g1.num]
 |digest p q =>
  refine made_read hk h hs hg _ q _ (fun b=>digestS b++bs [10]) (fun {R} K=>?_) (fun b hb=>by rw [ByteArray.size_append,digestS_size];decide) (fun b S1 hb g1 {R} K=>?_)
  ·unfold G.Qbf.fn
   dsimp only
   rw [idx_str0,asLeaf_str,E.digest_join,ifB_false,E.digest_expand,ifB_false,E.digest_pick,ifB_false,E.digest_list,ifB_false,E.digest_var,ifB_false,last3,asLeaf_str]
  ·have h3:=digestS_size b
   have e1:(bs [10]).size=1:=rfl
   unfold G.Qbf.q4 G.Qbf.q5 G.Qbf.q6 G.Qbf.q9 G.Qbf.q10
   dsimp only
   rw [E.digest_sort,ifB_false,E.digest_count,ifB_false,E.digest_first,ifB_false,E.digest_change,ifB_false,E.digest_digest,ifB_true,prog_Digest hk b (by omega)]
   dsimp only
   rw [cat_le (by omega),ifB_pos (by rw [ByteArray.size_append];omega)]
 |make p q =>
  refine made_read hk h hs hg _ q _ (fun b=>b) (fun {R} K=>?_) (fun b hb=>by omega) (fun b S1 hb g1 {R} K=>?_)
  ·unfold G.Qbf.fn
   dsimp only
   rw [idx_str0,asLeaf_str,E.make_join,ifB_false,E.make_expand,ifB_false,E.make_pick,ifB_false,E.make_list,ifB_false,E.make_var,ifB_false,last3,asLeaf_str]
  ·unfold G.Qbf.q4 G.Qbf.q5 G.Qbf.q6 G.Qbf.q9 G.Qbf.q10
   dsimp only
   rw [E.make_sort,ifB_false,E.make_count,ifB_false,E.make_first,ifB_false,E.make_change,ifB_false,E.make_digest,ifB_false]
   rfl
end
end Go.Lm
set_option maxRecDepth 100000
namespace Go.Lm
theorem bt_mem {s:ByteArray} {b:UInt8} (h:b∈toL s):∃j,j<s.size∧bt s (j:Int)=(b.toNat:Int):=by
 obtain ⟨j,hj,e⟩:=List.getElem_of_mem h
 rw [toL_len] at hj
 refine ⟨j,hj,?_⟩
 rw [bt_nat hj]
 have h5:(toL s)[j]? = some (s[j]'hj):=by
  unfold toL
  rw [Array.getElem?_toList]
  exact Array.getElem?_eq_getElem hj
 rw [List.getElem?_eq_getElem (by rw [toL_len];exact hj),e] at h5
 simp only [Option.some.injEq] at h5
 rw [←h5]
end Go.Lm
set_option maxRecDepth 100000
namespace Go.Lm
section
def sumF (l:List WF):Nat:=(l.map fun f=>f.b.size).sum
structure ABd (a:Act):Prop where
 fine:ActFine a
 outs:a.outs.length≤100
 path:∀p∈a.outs,isPathS p=true
structure FBd (F:List WF):Prop where
 len:F.length≤1000
 fit:∀f∈F,isPathS f.p=true∧f.b.size≤100000
theorem path_size {p:ByteArray} (h:isPathS p=true):p.size≤200:=by
 unfold isPathS at h
 rw [Bool.and_eq_true,Bool.and_eq_true,decide_eq_true_iff,decide_eq_true_iff] at h
 exact h.2.1
def okC (c:Int):Bool:=(c==10)||(decide (c≥32)&&decide (c≤126))
def TxtOk (s:ByteArray):Prop:=(∀b∈toL s,okC (b.toNat:Int)=true)∧(s=bs []∨∃t,s=t++bs [10])
theorem joinL_mem (c b:UInt8):∀(ws:List Bs),b∈joinL c ws→b=c∨∃w∈ws,b∈w
 |[],h=>by cases h
 |[w],h=>.inr ⟨w,by simp,h⟩
 |w::v::l,h=>by
  rw [joinL_cons c w (by simp)] at h
  rcases List.mem_append.1 h with h|h
  ·exact .inr ⟨w,by simp,h⟩
  ·rcases List.mem_cons.1 h with h|h
   ·exact .inl h
   ·rcases joinL_mem c b (v::l) h with h|⟨x,h1,h2⟩
    ·exact .inl h
    ·exact .inr ⟨x,List.mem_cons_of_mem _ h1,h2⟩
theorem word_bytes {w:ByteArray} (h:isWordS w=true):∀b∈toL w,okC (b.toNat:Int)=true:=fun b hb=>by
 obtain ⟨j,hj,e⟩:=bt_mem hb
 unfold isWordS at h
 rw [Bool.and_eq_true] at h
 have h1:=h.1
 unfold allB at h1
 have h2:=(scan_all (fun j=>by cases decide (33≤bt w (j:Int))&&decide (bt w (j:Int)≤126)<;>simp) _ _).1 h1 j (Nat.zero_le _) (by omega)
 cases h3:decide (33≤bt w (j:Int))&&decide (bt w (j:Int)≤126) with
 |false=>rw [h3] at h2;cases h2
 |true =>
  rw [e,Bool.and_eq_true,decide_eq_true_iff,decide_eq_true_iff] at h3
  unfold okC
  rw [Bool.or_eq_true,Bool.and_eq_true,decide_eq_true_iff,decide_eq_true_iff]
  exact .inr ⟨by omega,by omega⟩
theorem TxtOk.tell {s:ByteArray} (h:TxtOk s) {ws:List ByteArray} (hw:∀w∈ws,isWordS w=true):TxtOk (s++joinS ws++bs [10]):=by
 refine ⟨fun b hb=>?_,.inr ⟨_,rfl⟩⟩
 rw [toL_app,toL_app] at hb
 rcases List.mem_append.1 hb with hb|hb
 ·rcases List.mem_append.1 hb with hb|hb
  ·exact h.1 b hb
  ·rcases joinL_mem 32 b (ws.map toL) hb with rfl|⟨x,h1,h2⟩
   ·decide
   ·obtain ⟨w,hm,rfl⟩:=List.mem_map.1 h1
    exact word_bytes (hw w hm) b h2
 ·have:b=10:=by simpa [bs_toL] using hb
  subst this;decide
structure WInv (a:Act) (F:List WF) (W:ByteArray→Prop) (s:Wk):Prop where
 inp:s.inp=F
 wrn:(s.wr.map WF.p).Nodup
 wro:∀f∈s.wr,f.p∈a.outs∧f.b.size≤100000
 tot:s.total=(sumF s.wr:Int)∧sumF s.wr≤2000000
 told:s.told.size≤100000∧TxtOk s.told
 lkn:(s.lk.map LkE.p).Nodup
 lk:∀x∈s.lk,x=lookOf F x.p∧isPathS x.p=true∧(W x.p∨(getF F x.p).isSome=true)
theorem WInv.mono {a:Act} {F:List WF} {W W':ByteArray→Prop} {s:Wk} (h:WInv a F W s) (hw:∀p,W p→W' p):WInv a F W' s :=
 { h with lk:=fun x hx=>by obtain ⟨h1,h2,h3⟩:=h.lk x hx;exact ⟨h1,h2,h3.imp (hw _) id⟩ }
theorem nodup_len {α:Type} [DecidableEq α]:∀{l m:List α},l.Nodup→(∀x∈l,x∈m)→l.length≤m.length
 |[],m,_,_=>Nat.zero_le _
 |x::l,m,hn,hs=>by
  have h1:=List.nodup_cons.1 hn
  have h2:=nodup_len (l:=l) (m:=m.erase x) h1.2 fun y hy=>(List.mem_erase_of_ne (fun e=>h1.1 (by rw [←e];exact hy))).2 (hs y (by simp [hy]))
  have h3:=hs x (by simp)
  rw [List.length_erase_of_mem h3] at h2
  have:=List.length_pos_of_mem h3
  rw [List.length_cons];omega
theorem WInv.ok {a:Act} {F:List WF} {W:ByteArray→Prop} {s:Wk} (hF:FBd F) (h:WInv a F W s):WkOk s:=⟨fun f hf=>by rw [h.inp] at hf;exact (hF.fit f hf).2,fun f hf=>(h.wro f hf).2⟩
theorem WInv.wrl {a:Act} {F:List WF} {W:ByteArray→Prop} {s:Wk} (h:WInv a F W s):s.wr.length≤a.outs.length:=by
 have:=nodup_len (m:=a.outs) h.wrn fun p hp=>by
  obtain ⟨f,hf,rfl⟩:=List.mem_map.1 hp
  exact (h.wro f hf).1
 simpa using this
theorem WInv.ps {a:Act} (ha:ABd a) {F:List WF} (hF:FBd F) {W:ByteArray→Prop} {s:Wk} (h:WInv a F W s):WkP s :=
 ⟨⟨by rw [h.inp];exact hF.len,fun f hf=>by rw [h.inp] at hf;have:=path_size (hF.fit f hf).1;omega⟩,
   ⟨by have:=h.wrl;have:=ha.outs;omega,fun f hf=>by have:=path_size (ha.path _ (h.wro f hf).1);omega⟩⟩
theorem hasL_iff (l:List LkE) (p:ByteArray):hasL l p=true ↔ p∈l.map LkE.p:=by
 unfold hasL
 rw [List.any_eq_true,List.mem_map]
 constructor
 ·rintro ⟨x,hx,e⟩;exact ⟨x,hx,of_decide_eq_true e⟩
 ·rintro ⟨x,hx,e⟩;exact ⟨x,hx,decide_eq_true e⟩
theorem lookOf_p (F:List WF) (p:ByteArray):(lookOf F p).p=p:=by
 unfold lookOf
 cases getF F p<;>rfl
theorem WInv.find {a:Act} {F:List WF} {W:ByteArray→Prop} {s:Wk} (h:WInv a F W s) {p:ByteArray} (hp:isPathS p=true) (hw:W p∨(findS s p).1.isSome=true):WInv a F W (findS s p).2:=by
 unfold findS at hw ⊢
 cases hg:getF s.wr p with
 |some f=>exact h
 |none =>
  rw [hg] at hw
  dsimp only at hw ⊢
  unfold addL
  cases hh:hasL s.lk p with
  |true=>exact h
  |false =>
   have hnot:p∉s.lk.map LkE.p:=fun hm=>by rw [(hasL_iff _ _).2 hm] at hh;cases hh
   refine ⟨h.inp,h.wrn,h.wro,h.tot,h.told,?_,fun x hx=>?_⟩
   ·show ((s.lk++[lookOf s.inp p]).map LkE.p).Nodup
    rw [List.map_append,List.nodup_append]
    refine ⟨h.lkn,by simp,fun x hx y hy=>?_⟩
    simp only [List.map_cons,List.map_nil,List.mem_singleton,lookOf_p] at hy
    subst hy
    exact fun e=>hnot (e▸hx)
   ·rcases List.mem_append.1 hx with hx|hx
    ·exact h.lk x hx
    ·have e:x=lookOf s.inp p:=by simpa using hx
     have e2:x.p=p:=by rw [e,lookOf_p]
     refine ⟨by rw [e2,e,h.inp],by rw [e2];exact hp,?_⟩
     rw [e2,←h.inp]
     exact hw
structure Keep (s s':Wk):Prop where
 inp:s'.inp=s.inp
 wr:s'.wr=s.wr
theorem Keep.refl (s:Wk):Keep s s:=⟨rfl,rfl⟩
theorem Keep.trans {s s' s'':Wk} (h:Keep s s') (h':Keep s' s''):Keep s s'':=⟨h'.inp.trans h.inp,h'.wr.trans h.wr⟩
theorem Keep.find (s:Wk) (p:ByteArray):Keep s (findS s p).2:=by
 obtain ⟨h1,h2,_,_⟩:=findS_keep s p
 exact ⟨h1,h2⟩
section ops
variable {a:Act} {F:List WF} {W:ByteArray→Prop}
theorem WInv.read {s:Wk} (h:WInv a F W s) {p:ByteArray} (hp:isPathS p=true) (hw:W p):WInv a F W (readS s p).2:=h.find hp (.inl hw)
theorem WInv.pick:∀(l:List ByteArray) {s:Wk},WInv a F W s→(∀p∈l,isPathS p=true∧W p)→WInv a F W (pickS l s).2
 |[],s,h,_=>h
 |p::ps,s,h,hl=>by
  have h1:=h.find (hl p (by simp)).1 (.inl (hl p (by simp)).2)
  unfold pickS
  cases hf:(findS s p).1 with
  |some f=>exact h1
  |none=>exact WInv.pick ps h1 fun q hq=>hl q (by simp [hq])
theorem WInv.joined:∀(l:List ByteArray) (acc:ByteArray) {s:Wk},WInv a F W s→(∀p∈l,isPathS p=true∧W p)→WInv a F W (joinedS acc l s).2
 |[],acc,s,h,_=>h
 |p::ps,acc,s,h,hl=>by
  have h1:=h.find (hl p (by simp)).1 (.inl (hl p (by simp)).2)
  unfold joinedS
  cases hf:(findS s p).1 with
  |some f=>exact WInv.joined ps _ h1 fun q hq=>hl q (by simp [hq])
  |none=>exact h1
theorem getF_some {l:List WF} {p:ByteArray} (h:p∈l.map WF.p):(getF l p).isSome=true:=by
 obtain ⟨f,hf,e⟩:=List.mem_map.1 h
 unfold getF
 rw [List.find?_isSome]
 exact ⟨f,hf,decide_eq_true e⟩
theorem found_of {s:Wk} {p:ByteArray} (h:p∈s.inp.map WF.p∨p∈s.wr.map WF.p):(findS s p).1.isSome=true:=by
 unfold findS
 cases hg:getF s.wr p with
 |some f=>rfl
 |none =>
  rcases h with h|h
  ·exact getF_some h
  ·have:=getF_some h;rw [hg] at this;cases this
theorem WInv.listGo (path:ByteArray):∀(L:List ByteArray) (acc:ByteArray) {s:Wk},WInv a F W s→(∀p∈L,isPathS p=true∧(p∈s.inp.map WF.p∨p∈s.wr.map WF.p))→WInv a F W (listGo path L acc s).2
 |[],acc,s,h,_=>h
 |p::ps,acc,s,h,hl=>by
  have hp:=hl p (by simp)
  unfold Go.Lm.listGo
  cases liesS p path with
  |true =>
   have hk:=Keep.find s p
   refine WInv.listGo path ps _ (h.find hp.1 (.inr (found_of hp.2))) fun q hq=>?_
   rw [hk.inp,hk.wr]
   exact hl q (by simp [hq])
  |false=>exact WInv.listGo path ps _ h fun q hq=>hl q (by simp [hq])
theorem WInv.list (ha:ABd a) (hF:FBd F) {s:Wk} (h:WInv a F W s) {path:ByteArray} (hp:isPathS path=true) (hw:W path):WInv a F W (listS s path).2:=by
 have h1:=h.find hp (.inl hw)
 unfold listS
 refine WInv.listGo path _ _ h1 fun q hq=>?_
 have h2:=(h1.ps ha hF).list.2.2.2 q hq
 refine ⟨?_,h2⟩
 rcases h2 with h2|h2
 ·obtain ⟨f,hf,rfl⟩:=List.mem_map.1 h2
  rw [h1.inp] at hf
  exact (hF.fit f hf).1
 ·obtain ⟨f,hf,rfl⟩:=List.mem_map.1 h2
  exact ha.path _ (h1.wro f hf).1
def WInv1 (a:Act) (F:List WF) (W:ByteArray→Prop) (c:Int) (s:Wk):Prop:=(c=0→WInv a F W s)∧∃q,WInv a F (fun p=>W p∨p=q) s
theorem WInv1.of {c:Int} {s:Wk} (h:WInv a F W s):WInv1 a F W c s:=⟨fun _=>h,bs [],h.mono fun _=>.inl⟩
theorem WInv1.inc {rec:ByteArray→ES→Int×ES} (hrec:∀p e,isPathS p=true→WInv a F W e.wk→WInv1 a F W (rec p e).1 (rec p e).2.wk):∀(L:List ByteArray) (e:ES),WInv a F W e.wk→WInv1 a F W (incS rec L e).1 (incS rec L e).2.wk
 |[],e,h=>.of h
 |l::ls,e,h=>by
  unfold incS
  cases hb:(inclS (trimS l)).2&&isPathS (inclS (trimS l)).1 with
  |true =>
   rw [Bool.and_eq_true] at hb
   have h1:=hrec _ e hb.2 h
   rw [cond_true]
   by_cases hc:(rec (inclS (trimS l)).1 e).1=0
   ·rw [show ((rec (inclS (trimS l)).1 e).1==0)=true by rw [hc];rfl,cond_true]
    exact WInv1.inc hrec ls _ (h1.1 hc)
   ·rw [show ((rec (inclS (trimS l)).1 e).1==0)=false by rw [beq_eq_false_iff_ne];exact hc,cond_false]
    exact h1
  |false =>
   rw [cond_false]
   cases decide (100000<(e.out++endedS l).size) with
   |true=>exact .of h
   |false=>exact WInv1.inc hrec ls _ h
theorem WInv1.exp:∀(n:Nat) (ch:List ByteArray) (p:ByteArray) (e:ES),isPathS p=true→WInv a F W e.wk→WInv1 a F W (expS n ch p e).1 (expS n ch p e).2.wk
 |0,ch,p,e,_,h=>.of h
 |n+1,ch,p,e,hp,h=>by
  unfold expS
  cases ch.any (strEq p)||decide (30<ch.length) with
  |true=>exact .of h
  |false =>
   rw [cond_false]
   have h1:WInv a F (fun q=>W q∨q=p) (findS e.wk p).2:=(h.mono fun _=>.inl).find hp (.inl (.inr rfl))
   cases hf:(findS e.wk p).1 with
   |none =>
    have er:readS e.wk p=(none,(findS e.wk p).2):=by unfold readS;rw [hf];rfl
    rw [er]
    exact ⟨fun q=>absurd (show (2:Int)=0 from q) (by decide),p,h1⟩
   |some f =>
    have er:readS e.wk p=(some f.b,(findS e.wk p).2):=by unfold readS;rw [hf];rfl
    have h2:WInv a F W (findS e.wk p).2:=h.find hp (.inr (by rw [hf];rfl))
    rw [er]
    unfold openS
    dsimp only
    cases decide (10000<e.reads+1) with
    |true=>exact .of h2
    |false=>exact WInv1.inc (fun q e' hq he'=>WInv1.exp n _ q e' hq he') _ _ h2
theorem Keep.inc {rec:ByteArray→ES→Int×ES} (hrec:∀p e,Keep e.wk (rec p e).2.wk):∀(L:List ByteArray) (e:ES),Keep e.wk (incS rec L e).2.wk
 |[],e=>Keep.refl _
 |l::ls,e=>by
  unfold incS
  cases (inclS (trimS l)).2&&isPathS (inclS (trimS l)).1 with
  |true =>
   rw [cond_true]
   cases (rec (inclS (trimS l)).1 e).1==0 with
   |true=>exact (hrec _ e).trans (Keep.inc hrec ls _)
   |false=>exact hrec _ e
  |false =>
   rw [cond_false]
   cases decide (100000<(e.out++endedS l).size) with
   |true=>exact Keep.refl _
   |false=>exact Keep.inc hrec ls { e with out:=e.out++endedS l }
theorem optT_wk (c:Int) (r:Option ByteArray×Wk):(optT c r).2.2=r.2:=by
 obtain ⟨o,s⟩:=r
 cases o<;>rfl
theorem mapT_wk (f:ByteArray→ByteArray) (r:Option ByteArray×Wk):(mapT f r).2.2=r.2:=by
 obtain ⟨o,s⟩:=r
 cases o<;>rfl
def Cm.isExp:Cm→Bool
 | .expand _ _=>true
 |_=>false
structure WInv2 (a:Act) (F:List WF) (W:ByteArray→Prop) (x:Bool) (c:Int) (s:Wk):Prop where
 one:WInv1 a F W c s
 no:x=false→WInv a F W s
theorem WInv2.of {x:Bool} {c:Int} {s:Wk} (h:WInv a F W s):WInv2 a F W x c s:=⟨.of h,fun _=>h⟩
theorem WInv.made (ha:ABd a) (hF:FBd F) (k:Nat) {s:Wk} (h:WInv a F W s) (m:Cm) (ok:m.Ok) (hW:∀w∈m.words,W w):WInv2 a F W m.isExp (madeS k a m s).1 (madeS k a m s).2.2:=by
 have hp:=ok.path
 cases m with
 |tell w l=>exact .of h
 |need p=>exact .of h
 |same p q=>exact .of h
 |fail n=>exact .of h
 |join p q l =>
  refine .of ?_
  show WInv a F W (optT 2 (joinedS (bs []) (q::l) s)).2.2
  rw [optT_wk]
  exact h.joined (q::l) _ fun x hx=>⟨hp x (List.mem_cons_of_mem _ hx),hW x (List.mem_cons_of_mem _ (List.mem_cons_of_mem _ hx))⟩
 |expand p q =>
  exact ⟨WInv1.exp k [] q ⟨s,bs [],0⟩ (hp q (by simp [Cm.paths])) h,fun e=>(by cases e)⟩
 |pick p q r l =>
  refine .of ?_
  show WInv a F W (optT 2 (pickS (q::r::l) s)).2.2
  rw [optT_wk]
  exact h.pick (q::r::l) fun x hx=>⟨hp x (List.mem_cons_of_mem _ hx),hW x (List.mem_cons_of_mem _ (List.mem_cons_of_mem _ hx))⟩
 |list p q=>exact .of (h.list ha hF (hp q (by simp [Cm.paths])) (hW q (by simp [Cm.words])))
 |var p w =>
  refine .of ?_
  show WInv a F W (optT 4 (valueS a w,s)).2.2
  rw [optT_wk];exact h
 |sort p q =>
  refine .of ?_
  show WInv a F W (mapT sortLS (readS s q)).2.2
  rw [mapT_wk];exact h.read (hp q (by simp [Cm.paths])) (hW q (by simp [Cm.words]))
 |count p q =>
  refine .of ?_
  show WInv a F W (mapT countS (readS s q)).2.2
  rw [mapT_wk];exact h.read (hp q (by simp [Cm.paths])) (hW q (by simp [Cm.words]))
 |first p n q =>
  refine .of ?_
  show WInv a F W (mapT (firstS n) (readS s q)).2.2
  rw [mapT_wk];exact h.read (hp q (by simp [Cm.paths])) (hW q (by simp [Cm.words]))
 |change p m r q =>
  refine .of ?_
  show WInv a F W (mapT (fun b=>repS b m r) (readS s q)).2.2
  rw [mapT_wk];exact h.read (hp q (by simp [Cm.paths])) (hW q (by simp [Cm.words]))
 |digest p q =>
  refine .of ?_
  show WInv a F W (mapT (fun b=>digestS b++bs [10]) (readS s q)).2.2
  rw [mapT_wk];exact h.read (hp q (by simp [Cm.paths])) (hW q (by simp [Cm.words]))
 |make p q =>
  refine .of ?_
  show WInv a F W (mapT (fun b=>b) (readS s q)).2.2
  rw [mapT_wk];exact h.read (hp q (by simp [Cm.paths])) (hW q (by simp [Cm.words]))
theorem putF_mem:∀{l:List WF} {f g:WF},g∈putF l f→g∈l∨g=f
 |[],f,g,h=>.inr (by simpa [putF] using h)
 |x::l,f,g,h=>by
  unfold putF at h
  cases hd:decide (x.p=f.p) with
  |true =>
   rw [hd] at h
   rcases List.mem_cons.1 h with h|h
   ·exact .inr h
   ·exact .inl (List.mem_cons_of_mem _ h)
  |false =>
   rw [hd] at h
   rcases List.mem_cons.1 h with h|h
   ·exact .inl (by rw [h];simp)
   ·exact (putF_mem h).imp (List.mem_cons_of_mem _) id
theorem putF_nodup:∀{l:List WF} (f:WF),(l.map WF.p).Nodup→((putF l f).map WF.p).Nodup
 |[],f,_=>by simp [putF]
 |x::l,f,h=>by
  rw [List.map_cons,List.nodup_cons] at h
  unfold putF
  cases hd:decide (x.p=f.p) with
  |true =>
   have e:=of_decide_eq_true hd
   show ((f::l).map WF.p).Nodup
   rw [List.map_cons,List.nodup_cons,←e];exact h
  |false =>
   have e:=of_decide_eq_false hd
   show ((x::putF l f).map WF.p).Nodup
   rw [List.map_cons,List.nodup_cons]
   refine ⟨fun hm=>?_,putF_nodup f h.2⟩
   obtain ⟨g,hg,e2⟩:=List.mem_map.1 hm
   rcases putF_mem hg with hg|rfl
   ·exact h.1 (by rw [←e2];exact List.mem_map_of_mem hg)
   ·exact e e2.symm
def oldL (l:List WF) (p:ByteArray):Nat:=((getF l p).map fun f=>f.b.size).getD 0
theorem putF_sum:∀(l:List WF) (f:WF),sumF (putF l f)+oldL l f.p=sumF l+f.b.size
 |[],f=>by simp [putF,sumF,oldL,getF]
 |x::l,f=>by
  unfold putF oldL getF
  rw [List.find?_cons]
  cases hd:decide (x.p=f.p) with
  |true =>
   show sumF (f::l)+x.b.size=sumF (x::l)+f.b.size
   simp only [sumF,List.map_cons,List.sum_cons];omega
  |false =>
   have ih:=putF_sum l f
   unfold oldL getF at ih
   show sumF (x::putF l f)+_=sumF (x::l)+f.b.size
   simp only [sumF,List.map_cons,List.sum_cons] at ih ⊢;omega
theorem WInv.write {s:Wk} (h:WInv a F W s) (p b:ByteArray) (run:Bool):WInv a F W (writeS a s p b run).2:=by
 unfold writeS
 cases hc:a.outs.any (strEq p) with
 |false=>exact h
 |true =>
  rw [cond_true]
  cases h5:decide (b.size>100000) with
  |true=>exact h
  |false =>
   rw [cond_false]
   cases h6:decide (s.total-(oldN s p:Int)+b.size>2000000) with
   |true=>exact h
   |false =>
    have hp:p∈a.outs:=by
     obtain ⟨q,hq,e⟩:=List.any_eq_true.1 hc
     rw [(strEq_iff _ _).1 e];exact hq
    have hb:=of_decide_eq_false h5
    have ht:=of_decide_eq_false h6
    have h7:=putF_sum s.wr ⟨p,run,b⟩
    have h8:oldN s p=oldL s.wr p:=rfl
    have h9:=h.tot
    refine ⟨h.inp,putF_nodup _ h.wrn,fun f hf=>?_,?_,h.told,h.lkn,h.lk⟩
    ·rcases putF_mem hf with hf|rfl
     ·exact h.wro f hf
     ·exact ⟨hp,by show b.size≤_;omega⟩
    ·dsimp only at h7
     rw [h8] at ht
     show s.total-(oldN s p:Int)+b.size=(sumF (putF s.wr ⟨p,run,b⟩):Int)∧sumF (putF s.wr ⟨p,run,b⟩)≤2000000
     rw [h8]
     constructor<;>omega
theorem WInv.tell {s:Wk} (h:WInv a F W s) (ws:List ByteArray) (hw:∀w∈ws,isWordS w=true):WInv a F W (tellS s ws).2:=by
 unfold tellS
 cases hc:decide ((s.told++joinS ws++bs [10]).size>100000) with
 |true=>exact h
 |false=>exact { h with told:=⟨by have:=of_decide_eq_false hc;show (s.told++joinS ws++bs [10]).size≤_;omega,h.told.2.tell hw⟩ }
theorem WInv.same {s:Wk} (h:WInv a F W s) {p q:ByteArray} (hp:isPathS p=true∧W p) (hq:isPathS q=true∧W q):WInv a F W (sameS s p q).2:=by
 have h1:=h.read hp.1 hp.2
 unfold sameS
 cases (readS s p).1 with
 |none=>exact h1
 |some b =>
  have h2:=h1.read hq.1 hq.2
  dsimp only
  cases (readS (readS s p).2 q).1 with
  |none=>exact h2
  |some c=>exact h2
theorem WInv.wrt (ha:ABd a) (hF:FBd F) (k:Nat) {s:Wk} (h:WInv a F W s) (m:Cm) (ok:m.Ok) (hW:∀w∈m.words,W w):WInv2 a F W m.isExp (wrS k a m s).1 (wrS k a m s).2:=by
 have h1:=h.made ha hF k m ok hW
 unfold wrS
 by_cases hc:(madeS k a m s).1=0
 ·rw [show ((madeS k a m s).1==0)=true by rw [hc];rfl,cond_true]
  exact .of ((h1.one.1 hc).write _ _ _)
 ·rw [show ((madeS k a m s).1==0)=false by rw [beq_eq_false_iff_ne];exact hc,cond_false]
  exact h1
theorem WInv.does (ha:ABd a) (hF:FBd F) (k:Nat) {s:Wk} (h:WInv a F W s) (m:Cm) (ok:m.Ok) (hW:∀w∈m.words,W w):WInv2 a F W m.isExp (doCm k a m s).1 (doCm k a m s).2:=by
 have hp:=ok.path
 cases m with
 |tell w l=>exact .of (h.tell _ fun x hx=>ok.word x (List.mem_cons_of_mem _ hx))
 |need p=>exact .of (h.read (hp p (by simp [Cm.paths])) (hW p (by simp [Cm.words])))
 |same p q=>exact .of (h.same ⟨hp p (by simp [Cm.paths]),hW p (by simp [Cm.words])⟩ ⟨hp q (by simp [Cm.paths]),hW q (by simp [Cm.words])⟩)
 |fail n=>exact .of h
 |join p q l=>exact h.wrt ha hF k _ ok hW
 |expand p q=>exact h.wrt ha hF k _ ok hW
 |pick p q r l=>exact h.wrt ha hF k _ ok hW
 |list p q=>exact h.wrt ha hF k _ ok hW
 |var p w=>exact h.wrt ha hF k _ ok hW
 |sort p q=>exact h.wrt ha hF k _ ok hW
 |count p q=>exact h.wrt ha hF k _ ok hW
 |first p n q=>exact h.wrt ha hF k _ ok hW
 |change p m r q=>exact h.wrt ha hF k _ ok hW
 |digest p q=>exact h.wrt ha hF k _ ok hW
 |make p q=>exact h.wrt ha hF k _ ok hW
theorem WInv.runs (ha:ABd a) (hF:FBd F) (k:Nat):∀(ms:List Cm) (i:Nat) {s:Wk},WInv a F W s→(∀m∈ms,m.Ok∧∀w∈m.words,W w) →
  WInv2 a F W (ms.any Cm.isExp) (runL k a ms i s).1 (runL k a ms i s).2.2
 |[],i,s,h,_=>.of h
 |m::ms,i,s,h,hm=>by
  have h0:=hm m (by simp)
  have h1:=h.does ha hF k m h0.1 h0.2
  unfold runL
  by_cases hc:(doCm k a m s).1=0
  ·rw [show ((doCm k a m s).1==0)=true by rw [hc];rfl,cond_true]
   have h2:=WInv.runs ha hF k ms (i+1) (h1.one.1 hc) fun m' hm'=>hm m' (by simp [hm'])
   exact ⟨h2.one,fun e=>h2.no (by rw [List.any_cons,Bool.or_eq_false_iff] at e;exact e.2)⟩
  ·rw [show ((doCm k a m s).1==0)=false by rw [beq_eq_false_iff_ne];exact hc,cond_false]
   exact ⟨h1.one,fun e=>h1.no (by rw [List.any_cons,Bool.or_eq_false_iff] at e;exact e.1)⟩
end ops
end
end Go.Lm
set_option maxRecDepth 100000
namespace Go.Lm
section
variable {R:Type}
theorem wr_at {k:Nat} (hk:Many k) {a:Act} (ha:ABd a) {F:List WF} (hF:FBd F) {W:ByteArray→Prop} {I:Ids} {S:List LV} {s:Wk} (h:WkAt a I S s) (hi:WInv a F W s) (hg:GlobOk S) (m:Cm) (ok:m.Ok) (hW:∀w∈m.words,W w) (hm:m.mk)
  {w p:ByteArray} {ws:List ByteArray} (hw:m.words=w::p::ws) (ho:m.out=p) (hr:m.run=strEq w (bs [109,97,107,101]))
  (hfn:∀{R:Type} (K:Int×Unit→List LV→Option R),G.Qbb.fn k ((I.w,0),m.words.map .str,()) S K=G.Qbf.fn k ((I.w,0),m.words.map .str,()) S fun r16 S=>ifB (r16.2.1 != 0) (K r16.2 S) (idxL (m.words.map .str) (1:Int) fun v17=>asStr (leaf v17 0) fun s18=>idxL (m.words.map .str) (0:Int) fun v19=>asStr (leaf v19 0) fun s20=>G.Qbm.fn k ((I.w,0),s18,r16.1,(strEq s20 (bs [109,97,107,101])),()) S K)) :
  ∃S',WkAt a I S' (wrS k a m s).2∧Grow I S S'∧∀{R:Type} (K:Int×Unit→List LV→Option R),G.Qbb.fn k ((I.w,0),m.words.map .str,()) S K=K ((wrS k a m s).1,()) S':=by
 obtain ⟨S1,h1,h2,h3,h4⟩:=made_at hk ha.fine h (hi.ok hF) (hi.ps ha hF) hg m ok hm
 have hi1:=hi.made ha hF k m ok hW
 unfold wrS
 by_cases hc:(madeS k a m s).1=0
 ·have hi2:=hi1.one.1 hc
  have ht:=hi2.tot
  obtain ⟨S2,g1,g2,g3⟩:=wwrite_at hk ha.fine h1 (hi2.ok hF) ⟨by omega,by omega⟩ m.out (madeS k a m s).2.1 (h3 hc) m.run
  rw [show ((madeS k a m s).1==0)=true by rw [hc];rfl,cond_true]
  refine ⟨S2,g1,h2.trans g2,fun {R} K=>?_⟩
  rw [hfn,h4]
  dsimp only
  rw [hc,show ((0:Int) != 0)=false from rfl,ifB_false,hw,idx_str1,asLeaf_str,idx_str0,asLeaf_str,←hr,←ho]
  exact g3 K
 ·have hc2:((madeS k a m s).1==0)=false:=by rw [beq_eq_false_iff_ne];exact hc
  rw [hc2,cond_false]
  refine ⟨S1,h1,h2,fun {R} K=>?_⟩
  rw [hfn,h4]
  dsimp only
  rw [bne,hc2]
  rfl
theorem do_at {k:Nat} (hk:Many k) {a:Act} (ha:ABd a) {F:List WF} (hF:FBd F) {W:ByteArray→Prop} {I:Ids} {S:List LV} {s:Wk} (h:WkAt a I S s) (hi:WInv a F W s) (hg:GlobOk S) (m:Cm) (ok:m.Ok) (hW:∀w∈m.words,W w) :
  ∃S',WkAt a I S' (doCm k a m s).2∧Grow I S S'∧∀{R:Type} (K:Int×Unit→List LV→Option R),G.Qbb.fn k ((I.w,0),m.words.map .str,()) S K=K ((doCm k a m s).1,()) S':=by
 have hw:∀w∈m.words,1≤w.size∧w.size≤300:=fun w hw=>by
  have:=ok.word w hw
  unfold isWordS at this
  rw [Bool.and_eq_true,Bool.and_eq_true,decide_eq_true_iff,decide_eq_true_iff] at this
  exact this.2
 have hlen:=ok.len
 cases m with
 |tell w l =>
  have hl:(w::l).length≤50:=by simp only [Cm.words,List.length_cons] at hlen ⊢;omega
  obtain ⟨S1,h1,h2,h3⟩:=tell_at hk h hi.told.1 (w::l) (by omega) (fun x hx=>by have:=hw x (List.mem_cons_of_mem _ hx);omega)
  refine ⟨S1,h1,h2,fun {R} K=>?_⟩
  unfold G.Qbb.fn Cm.words
  dsimp only
  rw [idx_str0,asLeaf_str,E.tell_tell,ifB_true,tail_at]
  exact h3 K
 |need p =>
  obtain ⟨S1,h1,h2,h3⟩:=read_at hk h (hi.ok hF) p
  refine ⟨S1,h1,h2,fun {R} K=>?_⟩
  unfold G.Qbb.fn Cm.words
  dsimp only
  rw [idx_str0,asLeaf_str,E.need_tell,ifB_false,E.need_need,ifB_true,idx_str1,asLeaf_str]
  exact (h3 _).trans rfl
 |same p q =>
  obtain ⟨S1,h1,h2,h3,h4⟩:=same_at hk h (hi.ok hF) p q
  refine ⟨S1,h1,h3,fun {R} K=>?_⟩
  unfold G.Qbb.fn Cm.words
  dsimp only
  rw [idx_str0,asLeaf_str,E.same_tell,ifB_false,E.same_need,ifB_false,E.same_same,ifB_true,idx_str1,asLeaf_str,idx_str2,asLeaf_str]
  exact h4 K
 |fail n =>
  refine ⟨S,h,Grow.refl _ _,fun {R} K=>?_⟩
  unfold G.Qbb.fn Cm.words
  dsimp only
  rw [idx_str0,asLeaf_str,E.fail_tell,ifB_false,E.fail_need,ifB_false,E.fail_same,ifB_false,E.fail_fail,ifB_true,idx_str1,asLeaf_str,Atoi_at k (by omega) ok.num.1]
  rfl
 |join p q l =>
  refine wr_at hk ha hF h hi hg _ ok hW trivial rfl rfl E.join_make.symm fun {R} K=>?_
  unfold G.Qbb.fn Cm.words
  dsimp only
  rw [idx_str0,asLeaf_str,E.join_tell,ifB_false,E.join_need,ifB_false,E.join_same,ifB_false,E.join_fail,ifB_false]
 |expand p q =>
  refine wr_at hk ha hF h hi hg _ ok hW trivial rfl rfl E.expand_make.symm fun {R} K=>?_
  unfold G.Qbb.fn Cm.words
  dsimp only
  rw [idx_str0,asLeaf_str,E.expand_tell,ifB_false,E.expand_need,ifB_false,E.expand_same,ifB_false,E.expand_fail,ifB_false]
 |pick p q r l =>
  refine wr_at hk ha hF h hi hg _ ok hW trivial rfl rfl E.pick_make.symm fun {R} K=>?_
  unfold G.Qbb.fn Cm.words
  dsimp only
  rw [idx_str0,asLeaf_str,E.pick_tell,ifB_false,E.pick_need,ifB_false,E.pick_same,ifB_false,E.pick_fail,ifB_false]
 |list p q =>
  refine wr_at hk ha hF h hi hg _ ok hW trivial rfl rfl E.list_make.symm fun {R} K=>?_
  unfold G.Qbb.fn Cm.words
  dsimp only
  rw [idx_str0,asLeaf_str,E.list_tell,ifB_false,E.list_need,ifB_false,E.list_same,ifB_false,E.list_fail,ifB_false]
 |var p w =>
  refine wr_at hk ha hF h hi hg _ ok hW trivial rfl rfl E.var_make.symm fun {R} K=>?_
  unfold G.Qbb.fn Cm.words
  dsimp only
  rw [idx_str0,asLeaf_str,E.var_tell,ifB_false,E.var_need,ifB_false,E.var_same,ifB_false,E.var_fail,ifB_false]
 |sort p q =>
  refine wr_at hk ha hF h hi hg _ ok hW trivial rfl rfl E.sort_make.symm fun {R} K=>?_
  unfold G.Qbb.fn Cm.words
  dsimp only
  rw [idx_str0,asLeaf_str,E.sort_tell,ifB_false,E.sort_need,ifB_false,E.sort_same,ifB_false,E.sort_fail,ifB_false]
 |count p q =>
  refine wr_at hk ha hF h hi hg _ ok hW trivial rfl rfl E.count_make.symm fun {R} K=>?_
  unfold G.Qbb.fn Cm.words
  dsimp only
  rw [idx_str0,asLeaf_str,E.count_tell,ifB_false,E.count_need,ifB_false,E.count_same,ifB_false,E.count_fail,ifB_false]
 |first p n q =>
  refine wr_at hk ha hF h hi hg _ ok hW trivial rfl rfl E.first_make.symm fun {R} K=>?_
  unfold G.Qbb.fn Cm.words
  dsimp only
  rw [idx_str0,asLeaf_str,E.first_tell,ifB_false,E.first_need,ifB_false,E.first_same,ifB_false,E.first_fail,ifB_false]
 |change p m r q =>
  refine wr_at hk ha hF h hi hg _ ok hW trivial rfl rfl E.change_make.symm fun {R} K=>?_
  unfold G.Qbb.fn Cm.words
  dsimp only
  rw [idx_str0,asLeaf_str,E.change_tell,ifB_false,E.change_need,ifB_false,E.change_same,ifB_false,E.change_fail,ifB_false]
 |digest p q =>
  refine wr_at hk ha hF h hi hg _ ok hW trivial rfl rfl E.digest_make.symm fun {R} K=>?_
  unfold G.Qbb.fn Cm.words
  dsimp only
  rw [idx_str0,asLeaf_str,E.digest_tell,ifB_false,E.digest_need,ifB_false,E.digest_same,ifB_false,E.digest_fail,ifB_false]
 |make p q =>
  refine wr_at hk ha hF h hi hg _ ok hW trivial rfl rfl E.make_make.symm fun {R} K=>?_
  unfold G.Qbb.fn Cm.words
  dsimp only
  rw [idx_str0,asLeaf_str,E.make_tell,ifB_false,E.make_need,ifB_false,E.make_same,ifB_false,E.make_fail,ifB_false]
def runJ (K:Int×Int×Unit→List LV→Option R):(Nat×Nat)×Unit→List LV→Option R:=fun o6 S=>objAt S o6.1.1 fun ty c7=>ldRaw c7 (o6.1.2+7) fun v8=>asMap v8 fun i9=>mpAt S i9 .str fun m10=>objAt S o6.1.1 fun ty c11=>ldSl 1 c11 ((o6.1.2+0)+3) fun l12=>ifB (decide ((m10.length:Int)<(l12.length:Int))) (K (1,0,()) S) (K (0,0,()) S)
theorem get_mid (pre ms:List Cm) (m:Cm):((pre++m::ms).map Cm.words).getD pre.length []=m.words:=by
 simp [List.getD_eq_getElem?_getD]
theorem run_loop {k:Nat} (hk:Many k) {a:Act} (ha:ABd a) {F:List WF} (hF:FBd F) {W:ByteArray→Prop} {I:Ids} (hl:a.cmds.length≤50):∀(ms pre:List Cm) (n:Nat) {S:List LV} {s:Wk},a.cmds=(pre++ms).map Cm.words→ms.length<n→WkAt a I S s→WInv a F W s→GlobOk S→(∀m∈ms,m.Ok∧∀w∈m.words,W w) →
  ∃S',WkAt a I S' (runL k a ms pre.length s).2.2∧Grow I S S'∧∀{R:Type} (K:Int×Int×Unit→List LV→Option R),
   rounds (G.Qbi.b0 k (runJ K) K) n ((I.w,0),a.cmds.map cmdL,(a.cmds.length:Int),(pre.length:Int),()) S=K ((runL k a ms pre.length s).1,(runL k a ms pre.length s).2.1,()) S'
 |ms,pre,0,S,s,hc,hn,h,hi,hg,hm=>absurd hn (Nat.not_lt_zero _)
 |[],pre,n+1,S,s,hc,hn,h,hi,hg,hm=>by
  have e:a.cmds.length=pre.length:=by rw [hc];simp
  refine ⟨S,h,Grow.refl _ _,fun {R} K=>?_⟩
  rw [rounds_succ]
  unfold G.Qbi.b0
  dsimp only
  rw [e,lt_nat,ifB_neg (Nat.lt_irrefl _)]
  unfold runJ
  dsimp only
  rw [at_of h.w,c7_at,amap_at,mp_at h.o,at_of h.w,c3_at]
  have e2:(filesM s.wr).length=s.wr.length:=by simp [filesM]
  rw [e2,List.length_map,lt_nat]
  unfold runL
  cases decide (s.wr.length<a.outs.length)<;>rfl
 |m::ms,pre,n+1,S,s,hc,hn,h,hi,hg,hm=>by
  have h0:=hm m (by simp)
  have e:a.cmds.length=pre.length+(ms.length+1):=by rw [hc];simp
  have hget:a.cmds.getD pre.length []=m.words:=by rw [hc];exact get_mid pre ms m
  obtain ⟨S1,h1,h2,h3⟩:=do_at hk ha hF h hi hg m h0.1 h0.2
  have hi1:=hi.does ha hF k m h0.1 h0.2
  have step:∀{R:Type} (K:Int×Int×Unit→List LV→Option R),rounds (G.Qbi.b0 k (runJ K) K) (n+1) ((I.w,0),a.cmds.map cmdL,(a.cmds.length:Int),(pre.length:Int),()) S =
    ifB ((doCm k a m s).1 != 0) (K ((doCm k a m s).1,((pre.length+1:Nat):Int),()) S1) (rounds (G.Qbi.b0 k (runJ K) K) n ((I.w,0),a.cmds.map cmdL,(a.cmds.length:Int),((pre.length+1:Nat):Int),()) S1):=fun {R} K=>by
   rw [rounds_succ]
   unfold G.Qbi.b0
   dsimp only
   rw [lt_nat,ifB_pos (by omega),idxL_nat (by rw [List.length_map];omega),cmd_get _ _ (by omega),cmdL_at,hget,h3,wrap_succ (by omega)]
  unfold runL
  by_cases hz:(doCm k a m s).1=0
  ·obtain ⟨S2,g1,g2,g3⟩:=run_loop hk ha hF hl ms (pre++[m]) n (S:=S1) (by rw [hc];simp) (by simp at hn;omega) h1 (hi1.one.1 hz) (hg.grow h h2) fun m' hm'=>hm m' (by simp [hm'])
   rw [show (pre++[m]).length=pre.length+1 by simp] at g1 g3
   rw [show ((doCm k a m s).1==0)=true by rw [hz];rfl,cond_true]
   refine ⟨S2,g1,h2.trans g2,fun {R} K=>?_⟩
   rw [step,hz,show ((0:Int) != 0)=false from rfl,ifB_false]
   exact g3 K
  ·have hz2:((doCm k a m s).1==0)=false:=by rw [beq_eq_false_iff_ne];exact hz
   rw [hz2,cond_false]
   refine ⟨S1,h1,h2,fun {R} K=>?_⟩
   rw [step,bne,hz2]
   rfl
theorem run_at {k:Nat} (hk:Many k) {a:Act} (ha:ABd a) {F:List WF} (hF:FBd F) {W:ByteArray→Prop} {I:Ids} (hl:a.cmds.length≤50) {ms:List Cm} (hc:a.cmds=ms.map Cm.words) {S:List LV} {s:Wk} (h:WkAt a I S s) (hi:WInv a F W s) (hg:GlobOk S) (hm:∀m∈ms,m.Ok∧∀w∈m.words,W w) :
  ∃S',WkAt a I S' (runL k a ms 0 s).2.2∧Grow I S S'∧∀{R:Type} (K:Int×Int×Unit→List LV→Option R),G.Qbi.fn k ((I.w,0),()) S K=K ((runL k a ms 0 s).1,(runL k a ms 0 s).2.1,()) S':=by
 have hml:ms.length≤50:=by rw [hc,List.length_map] at hl;exact hl
 obtain ⟨S1,h1,h2,h3⟩:=run_loop hk ha hF hl ms [] k hc (by unfold Many at hk;omega) h hi hg hm
 refine ⟨S1,h1,h2,fun {R} K=>?_⟩
 unfold G.Qbi.fn
 dsimp only
 rw [at_of h.w]
 have l1:∀(K:List LV→Option R),ldSl 1 (cellsW a I s.told s.total) ((0+0)+1) K=K (a.cmds.map cmdL):=fun _=>rfl
 rw [l1,List.length_map]
 exact h3 K
end
end Go.Lm
set_option maxRecDepth 100000
namespace Go.Lm
section
theorem scan_allZ {β:Type} {step:Nat→Option β} {fin x:β} (hs:∀j r,step j=some r→r≠x):∀(d i:Nat),scan step fin d i=x→(∀j,i≤j→j<i+d→step j=none)∧fin=x
 |0,i,h=>⟨fun j h1 h2=>by omega,h⟩
 |d+1,i,h=>by
  cases hi:step i with
  |some r =>
   have e:scan step fin (d+1) i=r:=by show (match step i with|some r=>r|none=>scan step fin d (i+1))=r;rw [hi]
   rw [e] at h
   exact absurd h (hs i r hi)
  |none =>
   have e:scan step fin (d+1) i=scan step fin d (i+1):=by show (match step i with|some r=>r|none=>scan step fin d (i+1))=_;rw [hi]
   rw [e] at h
   obtain ⟨h1,h2⟩:=scan_allZ hs d (i+1) h
   refine ⟨fun j g1 g2=>?_,h2⟩
   by_cases e:j=i
   ·subst e;exact hi
   ·exact h1 j (by omega) (by omega)
theorem firstE_noneZ {step:Nat→Option Int} {n:Nat} (h:firstE step n=none):∀j,j<n→step j=none:=fun j hj=>by
 unfold firstE at h
 have h1:=(scan_allZ (x:=(none:Option Int)) (step:=fun i=>(step i).map some) (fun j r hr e=>by
  subst e
  cases hq:step j with
  |none=>rw [hq] at hr;cases hr
  |some y=>rw [hq] at hr;cases hr) n 0 h).1 j (Nat.zero_le _) (by omega)
 cases hq:step j with
 |none=>rfl
 |some y=>rw [hq] at h1;cases h1
theorem firstE_someZ {step:Nat→Option Int} {n:Nat} {e:Int} (h:firstE step n=some e) {P:Int→Prop} (hs:∀j r,step j=some r→P r):P e:=by
 unfold firstE at h
 refine scan_pred (P:=fun o=>∀e,o=some e→P e) (fun j r hr e he=>?_) (fun e he=>by cases he) n 0 e h
 cases hq:step j with
 |none=>rw [hq] at hr;cases hr
 |some y =>
  rw [hq] at hr
  cases hr;cases he
  exact hs j _ hq
abbrev SortedB (l:List ByteArray):Prop:=l.Pairwise fun a b=>strLt a b=true
structure OutFacts (l:List ByteArray):Prop where
 len:l.length≤100
 path:∀p∈l,isPathS p=true
 sort:SortedB l
 free:∀p∈l,underS l p=false
theorem sortedB_of {l:List ByteArray} (h:∀i,0<i→i<l.length→(strLt (l.getD i (bs [])) (l.getD (i-1) (bs []))||strEq (l.getD i (bs [])) (l.getD (i-1) (bs [])))=false):SortedB l:=by
 have hlt:∀(d i:Nat),i+1+d<l.length→strLt (l.getD i (bs [])) (l.getD (i+1+d) (bs []))=true:=fun d=>by
  induction d with
  |zero =>
   intro i hi
   exact strLt_total (h (i+1) (by omega) hi)
  |succ d ih =>
   intro i hi
   exact strLt_trans (ih i (by omega)) (strLt_total (h (i+1+d+1) (by omega) hi))
 rw [SortedB,List.pairwise_iff_getElem]
 intro i j hi hj hij
 have:=hlt (j-i-1) i (by omega)
 rw [show i+1+(j-i-1)=j by omega,List.getD_eq_getElem?_getD,List.getD_eq_getElem?_getD,List.getElem?_eq_getElem hi,List.getElem?_eq_getElem hj] at this
 exact this
theorem outs_facts {l:List ByteArray} (h:outsS l=0):OutFacts l:=by
 unfold outsS at h
 by_cases h0:l.length=0
 ·rw [decide_eq_true h0,cond_true] at h;exact absurd h (by decide)
 rw [decide_eq_false h0,cond_false] at h
 by_cases h1:l.length>100
 ·rw [decide_eq_true h1,cond_true] at h;exact absurd h (by decide)
 rw [decide_eq_false h1,cond_false] at h
 cases hf:firstE (outS l) l.length with
 |some e =>
  rw [hf] at h
  have:e≠0:=firstE_someZ hf (P:=fun e=>e≠0) fun j r hr=>by
   unfold outS at hr
   cases hp:isPathS (l.getD j (bs [])) with
   |false=>rw [hp] at hr;cases hr;decide
   |true =>
    rw [hp,Bool.not_true,cond_false] at hr
    cases hq:decide (0<j)&&(strLt (l.getD j (bs [])) (l.getD (j-1) (bs []))||strEq (l.getD j (bs [])) (l.getD (j-1) (bs []))) with
    |true=>rw [hq] at hr;cases hr;decide
    |false=>rw [hq] at hr;cases hr
  exact absurd h this
 |none =>
  rw [hf] at h
  have ha:=firstE_noneZ hf
  have hp:∀i,i<l.length→isPathS (l.getD i (bs []))=true:=fun i hi=>by
   have:=ha i hi
   unfold outS at this
   cases hp:isPathS (l.getD i (bs [])) with
   |true=>rfl
   |false=>rw [hp] at this;cases this
  have hq:∀i,0<i→i<l.length→(strLt (l.getD i (bs [])) (l.getD (i-1) (bs []))||strEq (l.getD i (bs [])) (l.getD (i-1) (bs [])))=false:=fun i h0 hi=>by
   have:=ha i hi
   unfold outS at this
   rw [hp i hi,Bool.not_true,cond_false,decide_eq_true h0,Bool.true_and] at this
   cases hq:(strLt (l.getD i (bs [])) (l.getD (i-1) (bs []))||strEq (l.getD i (bs [])) (l.getD (i-1) (bs []))) with
   |false=>rfl
   |true=>rw [hq] at this;cases this
  refine ⟨by omega,all_of_get hp,sortedB_of hq,fun p hp=>?_⟩
  cases hu:l.any (underS l) with
  |true=>rw [hu] at h;exact absurd (show (12:Int)=0 from h) (by decide)
  |false =>
   rw [List.any_eq_false] at hu
   have:=hu p hp
   simpa using this
theorem vars_facts {l:List AVar} (h:varsS l=0):l.length≤30∧∀x∈l,x.2.size≤300:=by
 unfold varsS at h
 by_cases h1:l.length>30
 ·rw [decide_eq_true h1,cond_true] at h;exact absurd h (by decide)
 rw [decide_eq_false h1,cond_false] at h
 have hs:∀j r,varS l j=some r→r≠0:=fun j r hr=>by
  unfold varS at hr
  cases ha:isNameS (l.getD j varZ).1 with
  |false=>rw [ha] at hr;cases hr;decide
  |true =>
   rw [ha,Bool.not_true,cond_false] at hr
   cases hb:decide ((l.getD j varZ).2.size>300)||!(allB 32 126 (l.getD j varZ).2) with
   |true=>rw [hb] at hr;cases hr;decide
   |false =>
    rw [hb,cond_false] at hr
    cases hc:decide (0<j)&&(strLt (l.getD j varZ).1 (l.getD (j-1) varZ).1||strEq (l.getD j varZ).1 (l.getD (j-1) varZ).1) with
    |true=>rw [hc] at hr;cases hr;decide
    |false=>rw [hc] at hr;cases hr
 have ha:=(scan_allZ hs l.length 0 h).1
 refine ⟨by omega,fun x hx=>?_⟩
 obtain ⟨i,hi,rfl⟩:=List.mem_iff_getElem.1 hx
 have:=ha i (Nat.zero_le _) (by omega)
 have e:l.getD i varZ=l[i]:=by rw [List.getD_eq_getElem?_getD,List.getElem?_eq_getElem hi];rfl
 unfold varS at this
 rw [e] at this
 cases hn:isNameS (l[i]).1 with
 |false=>rw [hn] at this;cases this
 |true =>
  rw [hn,Bool.not_true,cond_false] at this
  by_cases hb:(l[i]).2.size>300
  ·rw [decide_eq_true hb,Bool.true_or] at this;cases this
  ·omega
structure ActFacts (a:Act):Prop where
 cmds:a.cmds.length≤50
 cmd:∀c∈a.cmds,cmdS c=0
 vars:a.vars.length≤30∧∀x∈a.vars,x.2.size≤300
 outs:OutFacts a.outs
theorem act_facts {a:Act} (h:actS a=0):ActFacts a:=by
 unfold actS at h
 cases ht:isDigestS a.tool with
 |false=>rw [ht,cond_false] at h;exact absurd h (by decide)
 |true =>
 rw [ht,cond_true] at h
 by_cases h0:a.cmds.length=0
 ·rw [decide_eq_true h0,cond_true] at h;exact absurd h (by decide)
 rw [decide_eq_false h0,cond_false] at h
 by_cases h1:a.cmds.length>50
 ·rw [decide_eq_true h1,cond_true] at h;exact absurd h (by decide)
 rw [decide_eq_false h1,cond_false] at h
 have hne:∀j r,cmdAt a.cmds j=some r→r≠0:=fun j r hr=>by
  unfold cmdAt at hr
  cases hc:cmdS (a.cmds.getD j [])==0 with
  |true=>rw [hc] at hr;cases hr
  |false =>
   rw [hc] at hr
   cases hr
   rw [beq_eq_false_iff_ne] at hc
   exact hc
 cases hf:firstE (cmdAt a.cmds) a.cmds.length with
 |some e =>
  rw [hf] at h
  exact absurd h (firstE_someZ hf (P:=fun e=>e≠0) hne)
 |none =>
  rw [hf] at h
  have ha:=firstE_noneZ hf
  replace h:cond (varsS a.vars==0) (cond (outsS a.outs==0) (cond (varsS a.needs==0) (cond (decide (1≤a.time)&&decide (a.time≤100000)) 0 1) (varsS a.needs)) (outsS a.outs)) (varsS a.vars)=0:=h
  have hv:varsS a.vars=0:=by
   cases hv:varsS a.vars==0 with
   |true=>exact eq_of_beq hv
   |false=>rw [hv] at h;exact h
  rw [show (varsS a.vars==0)=true by rw [hv];rfl,cond_true] at h
  have ho:outsS a.outs=0:=by
   cases hv:outsS a.outs==0 with
   |true=>exact eq_of_beq hv
   |false=>rw [hv] at h;exact h
  refine ⟨by omega,fun c hc=>?_,vars_facts hv,outs_facts ho⟩
  obtain ⟨i,hi,rfl⟩:=List.mem_iff_getElem.1 hc
  have:=ha i hi
  have e:a.cmds.getD i []=a.cmds[i]:=by rw [List.getD_eq_getElem?_getD,List.getElem?_eq_getElem hi];rfl
  unfold cmdAt at this
  rw [e] at this
  cases hb:cmdS a.cmds[i]==0 with
  |true=>exact eq_of_beq hb
  |false=>rw [hb] at this;cases this
theorem ActFacts.bd {a:Act} (h:ActFacts a):ABd a :=
 ⟨⟨⟨by have:=h.vars.1;omega,fun x hx=>by have:=h.vars.2 x hx;omega⟩,by have:=h.outs.len;omega⟩,h.outs.len,h.outs.path⟩
theorem cms_of:∀{l:List (List ByteArray)},(∀c∈l,cmdS c=0)→∃ms:List Cm,l=ms.map Cm.words∧∀m∈ms,m.Ok
 |[],_=>⟨[],rfl,fun m hm=>by cases hm⟩
 |c::l,h=>by
  obtain ⟨m,h1,h2⟩:=cmd_of (h c (by simp))
  obtain ⟨ms,h3,h4⟩:=cms_of (l:=l) fun c hc=>h c (by simp [hc])
  refine ⟨m::ms,by rw [List.map_cons,h1,←h3],fun m' hm=>?_⟩
  rcases List.mem_cons.1 hm with rfl|hm
  ·exact h2
  ·exact h4 m' hm
def toWF (x:File):WF:=⟨x.p,x.r,x.b⟩
structure FileFacts (l:List File):Prop where
 len:l.length≤1000
 rise:Rising l
 fit:∀x∈l,isPathS x.p=true∧x.b.size≤100000
theorem file_facts {l:List File} (h:checkFilesS l=0):FileFacts l:=by
 have hr:=checkFiles_rising h
 unfold checkFilesS at h
 by_cases h1:l.length>1000
 ·rw [decide_eq_true h1] at h;exact absurd (show (2:Int)=0 from h) (by decide)
 rw [decide_eq_false h1] at h
 have hs:∀j r,fileS l j=some r→r≠0:=fun j r hr=>by
  unfold fileS at hr
  cases ha:isPathS (l.getD j .zero).p with
  |false=>rw [ha] at hr;cases hr;decide
  |true =>
   rw [ha] at hr
   cases hb:decide ((l.getD j .zero).b.size>100000) with
   |true=>rw [hb] at hr;cases hr;decide
   |false =>
    rw [hb] at hr
    cases hc:decide (0<j)&&(strLt (l.getD j .zero).p (l.getD (j-1) .zero).p||strEq (l.getD j .zero).p (l.getD (j-1) .zero).p) with
    |true=>rw [hc] at hr;cases hr;decide
    |false=>rw [hc] at hr;cases hr
 have ha:=(scan_allZ hs l.length 0 h).1
 refine ⟨by omega,hr,fun x hx=>?_⟩
 obtain ⟨i,hi,rfl⟩:=List.mem_iff_getElem.1 hx
 have:=ha i (Nat.zero_le _) (by omega)
 have e:l.getD i .zero=l[i]:=by rw [List.getD_eq_getElem?_getD,List.getElem?_eq_getElem hi];rfl
 unfold fileS at this
 rw [e] at this
 cases hp:isPathS l[i].p with
 |false=>rw [hp] at this;cases this
 |true =>
  rw [hp] at this
  refine ⟨rfl,?_⟩
  by_cases hb:l[i].b.size>100000
  ·rw [decide_eq_true hb] at this;cases this
  ·omega
theorem FileFacts.bd {l:List File} (h:FileFacts l):FBd (l.map toWF) :=
 ⟨by rw [List.length_map];exact h.len,fun f hf=>by obtain ⟨x,hx,rfl⟩:=List.mem_map.1 hf;exact h.fit x hx⟩
theorem FileFacts.sorted {l:List File} (h:FileFacts l):SortedB (l.map File.p):=by
 rw [SortedB,List.pairwise_map,List.pairwise_iff_getElem]
 intro i j hi hj hij
 have:=h.rise i j hij hj
 rw [List.getD_eq_getElem?_getD,List.getD_eq_getElem?_getD,List.getElem?_eq_getElem hi,List.getElem?_eq_getElem hj] at this
 exact this
theorem SortedB.nodup {l:List ByteArray} (h:SortedB l):l.Nodup:=h.imp fun h e=>by subst e;rw [strLt_irrefl] at h;cases h
variable {R:Type}
def touchS (p q:ByteArray):Bool:=strEq p q||(liesS p q||liesS q p)
theorem touch_at (k:Nat) (p q:ByteArray) (hp:p.size≤140737488355328) (hq:q.size≤140737488355328) (S:List LV) (K:Bool×Unit→List LV→Option R):G.Qaf.fn k (p,q,()) S K=K (touchS p q,()) S:=by
 unfold G.Qaf.fn touchS
 dsimp only
 rw [prog_Within k _ _ hq]
 dsimp only
 rw [prog_Within k _ _ hp]
 cases strEq p q with
 |true=>rfl
 |false =>
  cases liesS p q with
  |true=>rfl
  |false=>rfl
theorem prog_touch {k:Nat} (hk:Many k) (l:List ByteArray) (hl:l.length≤100) (hs:∀w∈l,w.size≤140737488355328) (p:ByteArray) (hp:p.size≤140737488355328) (id:Nat) (S:List LV) (b c:LV) (hS:S.getD id .any = .obj 50 [.str p,b,c]) (K:Bool×Unit→List LV→Option R) :
  G.Qct.fn k (l.map .str,((id,0),()),()) S K=K (l.any fun q=>touchS q p,()) S:=by
 have hk':=hk
 unfold Many at hk'
 unfold G.Qct.fn G.Qcy.fn
 dsimp only
 rw [List.length_map]
 have h:=rounds_scan0 (b:=G.Qcy.b0 k (fun (_:Unit) S=>K (decide ((-1:Int)≥0),()) S) (fun (o5:Int×Unit) S=>K (decide (o5.1≥0),()) S)) (fun i=>(l.map LV.str,((id,0),()),(l.length:Int),(i:Int),())) S l.length k (fun i=>cond (touchS (l.getD i (bs [])) p) (some (K (true,()) S)) none) (K (false,()) S) (fun rec i hi=>?_) (fun rec=>?_) (by omega)
 ·refine Eq.trans h ?_
  rw [scan_first0 (bs []) (fun q=>touchS q p)]
  cases l.any fun q=>touchS q p<;>rfl
 ·unfold G.Qcy.b0 G.Qai.fn
  dsimp only
  have hi2:i<(l.map LV.str).length:=by simpa using hi
  have hld:∀K:ByteArray→Option R,ldStr [LV.str p,b,c] (0+0) K=K p:=fun _=>rfl
  rw [lt_nat,ifB_pos hi]
  simp only [idxL_nat hi2,map_str_get l i hi,asLeaf_str,at_of hS,hld,touch_at k _ _ (get_size hs i hi) hp,wrap_succ (show i<9223372036854775807 by omega)]
  have e:decide ((i:Int)≥0)=true:=decide_eq_true (by omega)
  cases touchS (l.getD i (bs [])) p with
  |false=>rfl
  |true =>
   show K (decide ((i:Int)≥0),()) S=K (true,()) S
   rw [e]
 ·unfold G.Qcy.b0
  dsimp only
  rw [lt_nat,ifB_neg (Nat.lt_irrefl _)]
  rfl
def meetS (a:Act) (f:File):Bool:=a.outs.any fun q=>touchS q f.p
theorem both_loop {k:Nat} (hk:Many k) (a:Act) (ho:a.outs.length≤100) (hs:∀w∈a.outs,w.size≤140737488355328) (files:List File) (hl:files.length≤1000) (hf:∀f∈files,f.p.size≤140737488355328):∀(fs pre:List File) (n:Nat) (S:List LV),files=pre++fs→fs.length<n →
  ∃X,∀{R:Type} (K:Int×Unit→List LV→Option R),rounds (G.Qah.b0 k (fun _ S=>K (0,()) S) K) n (a.tup,files.map File.lv,(files.length:Int),(pre.length:Int),()) S=K (cond (fs.any (meetS a)) 12 0,()) (S++X)
 |fs,pre,0,S,e,hn=>absurd hn (Nat.not_lt_zero _)
 |[],pre,n+1,S,e,hn=>by
  have hlen:files.length=pre.length:=by rw [e];simp
  refine ⟨[],fun {R} K=>?_⟩
  rw [rounds_succ,List.append_nil]
  unfold G.Qah.b0
  dsimp only
  rw [hlen,lt_nat,ifB_neg (Nat.lt_irrefl _)]
  rfl
 |f::fs,pre,n+1,S,e,hn=>by
  have hlen:files.length=pre.length+(fs.length+1):=by rw [e];simp
  have hget:(files.map File.lv).getD pre.length .any=f.lv:=by rw [e];simp [List.getD_eq_getElem?_getD]
  have hfm:f∈files:=by rw [e];simp
  let S2:=S++[LV.obj 50 [.str f.p,.bool f.r,.sl 1 (bytesL f.b)]]
  have hbox:(S++[LV.obj 50 [.str (bs []),.bool false,.nilsl]]).getD S.length .any = .obj 50 [.str (bs []),.bool false,.nilsl]:=get_last _ _
  have hbox2:S2.getD S.length .any = .obj 50 [.str f.p,.bool f.r,.sl 1 (bytesL f.b)]:=get_last _ _
  have step:∀{R:Type} (K:Int×Unit→List LV→Option R),rounds (G.Qah.b0 k (fun _ S=>K (0,()) S) K) (n+1) (a.tup,files.map File.lv,(files.length:Int),(pre.length:Int),()) S =
    ifB (meetS a f) (K (12,()) S2) (rounds (G.Qah.b0 k (fun _ S=>K (0,()) S) K) n (a.tup,files.map File.lv,(files.length:Int),((pre.length+1:Nat):Int),()) S2):=fun {R} K=>by
   have hst:∀K:List LV→Option R,stO [LV.str (bs []),.bool false,.nilsl] 0 [.str f.p,.bool f.r,.sl 1 (bytesL f.b)] K=K [.str f.p,.bool f.r,.sl 1 (bytesL f.b)]:=fun _=>rfl
   rw [rounds_succ]
   unfold G.Qah.b0
   dsimp only
   rw [lt_nat,ifB_pos (by omega),idxL_nat (by rw [List.length_map];omega),hget,File.mat]
   show asSl 1 f.leaf _=_
   rw [f.sl]
   unfold newObj
   dsimp only
   rw [at_of hbox,hst,setS_of,set_last]
   show G.Qct.fn k (a.outs.map .str,((S.length,0),()),()) S2 _=_
   rw [prog_touch hk a.outs ho hs f.p (hf f hfm) _ _ _ _ hbox2,wrap_succ (by omega)]
   rfl
  cases hm:meetS a f with
  |true =>
   refine ⟨[LV.obj 50 [.str f.p,.bool f.r,.sl 1 (bytesL f.b)]],fun {R} K=>?_⟩
   rw [step,hm,List.any_cons,hm];rfl
  |false =>
   obtain ⟨X,hX⟩:=both_loop hk a ho hs files hl hf fs (pre++[f]) n S2 (by rw [e];simp) (by simp at hn;omega)
   refine ⟨[LV.obj 50 [.str f.p,.bool f.r,.sl 1 (bytesL f.b)]]++X,fun {R} K=>?_⟩
   rw [step,hm,ifB_false,List.any_cons,hm,Bool.false_or,←List.append_assoc]
   have:=hX K
   rw [show (pre++[f]).length=pre.length+1 by simp] at this
   exact this
def bothS (a:Act) (files:List File):Int:=cond (actS a==0) (cond (checkFilesS files==0) (cond (files.any (meetS a)) 12 0) (checkFilesS files)) (actS a)
theorem bothS_ok {a:Act} {files:List File} (h:bothS a files=0):actS a=0∧checkFilesS files=0:=by
 unfold bothS at h
 have h1:actS a=0:=by
  cases hv:actS a==0 with
  |true=>exact eq_of_beq hv
  |false=>rw [hv] at h;exact h
 rw [show (actS a==0)=true by rw [h1];rfl,cond_true] at h
 refine ⟨h1,?_⟩
 cases hv:checkFilesS files==0 with
 |true=>exact eq_of_beq hv
 |false=>rw [hv] at h;exact h
theorem both0 {k:Nat} (hk:Many k) (a:Act) (ok:ActOk a) (files:List File) (fo:FilesOk files) (S:List LV):∃X,∀{R:Type} (K:Int×Unit→List LV→Option R),G.Qah.fn0 k (a.tup,files.map File.lv,()) S K=K (bothS a files,()) (S++X):=by
 have hk':=hk
 unfold Many at hk'
 have start:∀{R:Type} (K:Int×Unit→List LV→Option R),G.Qah.fn0 k (a.tup,files.map File.lv,()) S K=ifB (actS a != 0) (K (actS a,()) S) (ifB (checkFilesS files != 0) (K (checkFilesS files,()) S) (rounds (G.Qah.b0 k (fun _ S=>K (0,()) S) K) k (a.tup,files.map File.lv,(files.length:Int),0,()) S)):=fun {R} K=>by
  unfold G.Qah.fn0
  dsimp only
  rw [prog_CheckAction hk a ok]
  dsimp only
  rw [prog_CheckFiles hk files fo,List.length_map]
 unfold bothS
 by_cases h1:actS a=0
 ·by_cases h2:checkFilesS files=0
  ·have ha:=act_facts h1
   have hf:=file_facts h2
   obtain ⟨X,hX⟩:=both_loop hk a ha.outs.len ok.outs files hf.len fo.p files [] k S rfl (by have:=hf.len;omega)
   refine ⟨X,fun {R} K=>?_⟩
   rw [start,h1,h2]
   exact hX K
  ·have hb:(checkFilesS files==0)=false:=by rw [beq_eq_false_iff_ne];exact h2
   refine ⟨[],fun {R} K=>?_⟩
   rw [start,h1,bne,bne,hb,List.append_nil]
   rfl
 ·have hb:(actS a==0)=false:=by rw [beq_eq_false_iff_ne];exact h1
  refine ⟨[],fun {R} K=>?_⟩
  rw [start,bne,hb,List.append_nil]
  rfl
theorem both_at {k:Nat} (hk:Many k) (a:Act) (ok:ActOk a) (files:List File) (fo:FilesOk files) (S:List LV) (K:Int×Unit→List LV→Option R):G.Qah.fn k (a.tup,files.map File.lv,()) S K=K (bothS a files,()) S:=by
 obtain ⟨X,h⟩:=both0 hk a ok files fo S
 exact popK_at (h _) rfl
end
end Go.Lm
set_option maxRecDepth 100000
namespace Go.Lm
section
def sortP (ks:List ByteArray):List ByteArray:=((ks.map toL).mergeSort fun x y=>decide (x≤y)).map ofL
theorem sortP_perm (ks:List ByteArray):(sortP ks).Perm ks:=by
 have h1:=(List.mergeSort_perm (ks.map toL) (fun x y=>decide (x≤y))).map ofL
 rw [List.map_map] at h1
 refine h1.trans (.of_eq ?_)
 have:∀l:List ByteArray,l.map (ofL ∘ toL)=l:=fun l=>by
  induction l with
  |nil=>rfl
  |cons a l ih=>rw [List.map_cons,ih];rfl
 exact this ks
theorem sortP_sorted {ks:List ByteArray} (hn:ks.Nodup):SortedB (sortP ks):=by
 have hp:=List.mergeSort_perm (ks.map toL) (fun x y=>decide (x≤y))
 have hs:((ks.map toL).mergeSort fun x y=>decide (x≤y)).Pairwise (fun x y=>x≤y) :=
  (List.pairwise_mergeSort (le:=fun (x y:List UInt8)=>decide (x≤y)) (fun a b c h1 h2=>by simp only [decide_eq_true_eq] at *;exact List.le_trans h1 h2) (fun a b=>by simpa using List.le_total a b) _).imp fun h=>by simpa using h
 have hd:((ks.map toL).mergeSort fun x y=>decide (x≤y)).Nodup:=by
  refine hp.nodup_iff.2 ?_
  rw [List.Nodup,List.pairwise_map]
  exact hn.imp fun h e=>h (toL_inj e)
 unfold sortP
 generalize ((ks.map toL).mergeSort fun x y=>decide (x≤y))=L at hp hs hd
 rw [SortedB,List.pairwise_map]
 refine (hs.and hd).imp ?_
 rintro a b ⟨h1,h2⟩
 refine strLt_total ?_
 rw [Bool.or_eq_false_iff,strLt_dec,strEq_dec]
 refine ⟨decide_eq_false fun h=>absurd h1 (List.not_le.2 h),decide_eq_false fun e=>h2 ?_⟩
 have:=congrArg toL e
 exact this.symm
theorem looks_keys (l:List LkE):(sortS (looksM l)).map ofL=sortP (l.map LkE.p):=by
 unfold sortS sortP looksM
 rw [List.map_map,List.map_map];rfl
theorem files_keys (l:List WF):(sortS (filesM l)).map ofL=sortP (l.map WF.p):=by
 unfold sortS sortP filesM
 rw [List.map_map,List.map_map];rfl
def lkAt (l:List LkE) (p:ByteArray):LkE:=(l.find? fun x=>decide (x.p=p)).getD ⟨p,bs [],false⟩
def wfAt (l:List WF) (p:ByteArray):WF:=(getF l p).getD ⟨p,false,bs []⟩
structure RS where
 code:Int
 text:ByteArray
 files:List WF
 looks:List LkE
 cmd:Int
abbrev RT:=Int×ByteArray×List LV×List LV×Int×Unit
def RS.tup (r:RS):RT:=(r.code,r.text,r.files.map WF.lv,r.looks.map LkE.lv,r.cmd,())
def outR (c:Int) (cmd:Int) (s:Wk):RS:=⟨c,s.told,cond (c==0) ((sortP (s.wr.map WF.p)).map (wfAt s.wr)) [],(sortP (s.lk.map LkE.p)).map (lkAt s.lk),cmd⟩
def run0 (k:Nat) (a:Act) (ms:List Cm) (F:List WF):Int×Int×Wk:=runL k a ms 0 ⟨F,[],[],bs [],0⟩
def execS (k:Nat) (a:Act) (ms:List Cm) (F:List WF):RS:=outR (run0 k a ms F).1 (run0 k a ms F).2.1 (run0 k a ms F).2.2
variable {R:Type}
theorem WkAt.pre {a:Act} {I:Ids} {S S':List LV} {s:Wk} (h:WkAt a I S s) (hp:Pre S S'):WkAt a I S' s :=
 ⟨(hp.old _ (getD_lt h.w (by simp))).trans h.w,(hp.old _ (getD_lt h.i (by simp))).trans h.i,(hp.old _ (getD_lt h.o (by simp))).trans h.o,(hp.old _ (getD_lt h.l (by simp))).trans h.l,h.io,h.il,h.ol⟩
theorem flat3_len:∀(T:List LV),(flatC 3 T).length=T.length*3
 |[]=>rfl
 |x::T=>by
  have ih:=flat3_len T
  have e:flatC 3 (x::T)=[leaf x 0,leaf x 1,leaf x 2]++flatC 3 T:=rfl
  rw [e,List.length_append,ih]
  show 3+T.length*3=(T.length+1)*3
  omega
theorem flat3_app:∀(T:List LV) (x:LV),flatC 3 (T++[x])=flatC 3 T++flatC 3 [x]
 |[],x=>rfl
 |y::T,x=>by
  have e:∀T,flatC 3 (y::T)=[leaf y 0,leaf y 1,leaf y 2]++flatC 3 T:=fun _=>rfl
  rw [List.cons_append,e,e,flat3_app T x,List.append_assoc]
def Row3 (S0:List LV) (e:Nat) (T:List LV) (v:LV) (Sx:List LV):Prop :=
 Pre S0 Sx∧((T=[]∧v = .nilsl)∨∃id,S0.length≤id∧v = .osl id 0 3 T.length∧Sx.getD id .any = .vec e (flatC 3 T))
theorem row3_app {S0:List LV} {e:Nat} {T:List LV} {v:LV} {Sx:List LV} (h:Row3 S0 e T v Sx) (hT:T.length≤1000000) {b:Nat} (hb:b≤100) (x:LV) :
  ∃i S',Row3 S0 e (T++[x]) (.osl i 0 3 (T++[x]).length) S'∧∀{R:Type} (K:Nat→Nat→List LV→Option R),appO e 3 b Sx v [x] K=K i (T++[x]).length S':=by
 have hm:(T.length+1)*b≤1000001*100:=Nat.mul_le_mul (by omega) hb
 obtain ⟨hp,⟨rfl,rfl⟩|⟨id,hid,rfl,hv⟩⟩:=h
 ·refine ⟨Sx.length,Sx++[.vec e (flatC 3 [x])],⟨hp.trans (Pre.app _ _),.inr ⟨_,hp.len,rfl,get_last _ _⟩⟩,fun {R} K=>?_⟩
  unfold appO
  dsimp only
  have hc:(Nat.blt 0 3&&Nat.blt 0 [x].length&&fitsB 0 [x].length b)=true:=by
   have h2:fitsB 0 [x].length b=true:=by unfold fitsB;rw [decide_eq_true];simp at hm ⊢;omega
   rw [h2];rfl
  rw [hc,ifB_true]
  try rfl
 ·have hlt:=getD_lt hv (by simp)
  refine ⟨Sx.length,Sx.set id .any++[.vec e (flatC 3 (T++[x]))],⟨(hp.set hid _).trans (Pre.app _ _),.inr ⟨_,hp.len,rfl,?_⟩⟩,fun {R} K=>?_⟩
  ·have:Sx.length=(Sx.set id .any).length:=by simp
   rw [this];exact get_last _ _
  unfold appO cellsAt
  dsimp only
  rw [hv]
  dsimp only
  have hc:(Nat.beq e e&&Nat.beq 0 0&&Nat.beq 3 3&&Nat.blt 0 3&&Nat.ble (T.length*3) (flatC 3 T).length&&fitsB T.length [x].length b)=true:=by
   have h1:Nat.ble (T.length*3) (flatC 3 T).length=true:=Nat.ble_eq_true_of_le (by rw [flat3_len];exact Nat.le_refl _)
   have h2:fitsB T.length [x].length b=true:=by unfold fitsB;rw [decide_eq_true];simp;omega
   rw [h1,h2,Nat.beq_refl];rfl
  rw [hc,ifB_true,flat3_app,List.length_append]
  have e2:(flatC 3 T).take (T.length*3)=flatC 3 T:=by rw [List.take_of_length_le (by rw [flat3_len];exact Nat.le_refl _)]
  rw [e2]
def El (x:LV):Prop:=∃u v w,x = .agg [u,v,w]∧dupL u=u∧dupL v=v∧dupL w=w
theorem chunks3:∀(T:List LV),(∀x∈T,El x)→chunks 3 T.length (flatC 3 T)=T
 |[],_=>rfl
 |x::T,h=>by
  obtain ⟨u,v,w,rfl,h1,h2,h3⟩:=h x (by simp)
  have ih:=chunks3 T fun y hy=>h y (by simp [hy])
  unfold chunks at ih ⊢
  rw [show Nat.beq 3 1=false from rfl] at ih ⊢
  dsimp only at ih ⊢
  have e:flatC 3 (LV.agg [u,v,w]::T)=u::v::w::flatC 3 T:=rfl
  rw [e,List.length_cons,List.range_succ_eq_map,List.map_cons,List.map_map]
  congr 1
  ·show LV.agg [dupL u,dupL v,dupL w]=_
   rw [h1,h2,h3]
  ·refine Eq.trans (List.map_congr_left fun i _=>?_) ih
   show LV.agg ((((u::v::w::flatC 3 T).drop ((i+1)*3)).take 3).map dupL)=_
   rw [show (i+1)*3=i*3+1+1+1 by omega]
   rfl
theorem frz3 {S0:List LV} {e:Nat} {T:List LV} {v:LV} {Sx:List LV} (h:Row3 S0 e T v Sx) (hT:∀x∈T,El x) (hl:T.length≤1000000) :
  ∃S',Pre S0 S'∧∀{R:Type} (K:List LV→List LV→Option R),frzO 3 v Sx K=K T S':=by
 obtain ⟨hp,⟨rfl,rfl⟩|⟨id,hid,rfl,hv⟩⟩:=h
 ·exact ⟨Sx,hp,fun {R} K=>rfl⟩
 ·refine ⟨Sx.set id .any,hp.set hid _,fun {R} K=>?_⟩
  unfold frzO objAt
  dsimp only
  rw [hv]
  dsimp only
  have hc:(Nat.beq 3 3&&(Nat.beq 0 0&&Nat.beq (T.length*3) (flatC 3 T).length&&Nat.blt 0 3&&Nat.ble T.length 9223372036854775807))=true:=by
   rw [flat3_len,show Nat.beq (T.length*3) (T.length*3)=true from Nat.beq_refl _,show Nat.ble T.length 9223372036854775807=true from Nat.ble_eq_true_of_le (by omega)];rfl
  rw [hc,ifB_true,chunks3 T hT]
theorem El.lk (x:LkE):El x.lv:=⟨_,_,_,rfl,rfl,rfl,rfl⟩
theorem El.wf (x:WF):El x.lv:=⟨_,_,_,rfl,rfl,rfl,rfl⟩
theorem sortedL_at (k:Nat) {S:List LV} {id t m:Nat} {kvs:List (LV×LV)} (h1:S.getD id .any = .obj t [.map m]) (h2:S.getD m .any = .mp .str kvs) (h3:H.keySok kvs=true) (K:List LV×Unit→List LV→Option R) :
  H.SortedL.fn k (((id,0),()),()) S K=K (((sortS kvs).map ofL).map .str,()) S:=sortedB_at k h1 h2 h3 K
theorem sortedF_at (k:Nat) {S:List LV} {id t m:Nat} {kvs:List (LV×LV)} (h1:S.getD id .any = .obj t [.map m]) (h2:S.getD m .any = .mp .str kvs) (h3:H.keySok kvs=true) (K:List LV×Unit→List LV→Option R) :
  H.SortedF.fn k (((id,0),()),()) S K=K (((sortS kvs).map ofL).map .str,()) S:=sortedB_at k h1 h2 h3 K
theorem looksM_at (l:List LkE) (p:ByteArray) (K:ByteArray→ByteArray→Bool→Option R) :
  (mat 3 ((mapGet (looksM l) (.str p)).getD (.agg [.str (bs []),.str (bs []),.bool false])) fun c=>asStr (c.getD 0 .any) fun s=>asStr (c.getD 1 .any) fun d=>asBool (c.getD 2 .any) fun b=>K s d b) =
   K (cond (hasL l p) (lkAt l p).p (bs [])) (lkAt l p).d (lkAt l p).r:=by
 induction l with
 |nil=>rfl
 |cons x l ih =>
  have e:mapGet (looksM (x::l)) (.str p)=(match decide (x.p=p) with|true=>some x.lv|false=>mapGet (looksM l) (.str p)):=rfl
  rw [e]
  unfold hasL lkAt
  rw [List.any_cons,List.find?_cons]
  cases h:decide (x.p=p) with
  |true=>rfl
  |false=>exact ih
theorem look_loop (k:Nat) {a:Act} {I:Ids} {S0:List LV} {s:Wk} (h:WkAt a I S0 s) (L:List ByteArray) (hL:L.length≤100000) (hm:∀p∈L,hasL s.lk p=true) (t:Int×ByteArray×LV×LV×Int×Unit) (c:Int) (text:ByteArray) (fv:LV) (cmd:Int) :
  ∀(ps pre:List ByteArray) (n:Nat) (Sx:List LV) (v:LV),L=pre++ps→ps.length<n→Row3 S0 38 (pre.map fun p=>(lkAt s.lk p).lv) v Sx →
  ∃v' S',Row3 S0 38 (L.map fun p=>(lkAt s.lk p).lv) v' S'∧∀{R:Type} (J2:(Int×ByteArray×LV×LV×Int×Unit)×(Nat×Nat)×(Int×ByteArray×LV×LV×Int×Unit)×Unit→List LV→Option R),
   rounds (G.Qac.b1 k J2) n (t,(I.w,0),(c,text,fv,v,cmd,()),L.map .str,(L.length:Int),(pre.length:Int),()) Sx=J2 (t,(I.w,0),(c,text,fv,v',cmd,()),()) S'
 |ps,pre,0,Sx,v,e,hn,hr=>absurd hn (Nat.not_lt_zero _)
 |[],pre,n+1,Sx,v,e,hn,hr=>by
  rw [List.append_nil] at e
  subst e
  refine ⟨v,Sx,hr,fun {R} J2=>?_⟩
  rw [rounds_succ]
  unfold G.Qac.b1
  dsimp only
  rw [lt_nat,ifB_neg (Nat.lt_irrefl _)]
 |p::ps,pre,n+1,Sx,v,e,hn,hr=>by
  have hlen:L.length=pre.length+(ps.length+1):=by rw [e];simp
  have hget:(L.map LV.str).getD pre.length .any = .str p:=by rw [e];simp [List.getD_eq_getElem?_getD]
  have hpm:=hm p (by rw [e];simp)
  have hlp:(lkAt s.lk p).p=p:=by
   unfold lkAt
   cases hf:s.lk.find? fun x=>decide (x.p=p) with
   |none=>rfl
   |some x=>have:=List.find?_some hf;exact of_decide_eq_true this
  obtain ⟨i,S1,r1,r2⟩:=row3_app hr (by rw [List.length_map];omega) (b:=40) (by omega) (lkAt s.lk p).lv
  have hw:=h.pre hr.1
  have e2:(pre.map fun p=>(lkAt s.lk p).lv)++[(lkAt s.lk p).lv]=(pre++[p]).map fun p=>(lkAt s.lk p).lv:=by rw [List.map_append];rfl
  rw [e2] at r1 r2
  obtain ⟨v',S',g1,g2⟩:=look_loop k h L hL hm t c text fv cmd ps (pre++[p]) n S1 _ (by rw [e];simp) (by simp at hn;omega) r1
  refine ⟨v',S',g1,fun {R} J2=>?_⟩
  have g3:=g2 J2
  rw [rounds_succ]
  unfold G.Qac.b1
  dsimp only
  have l8:∀(told:ByteArray) (total:Int) (K:LV→Option R),ldRaw (cellsW a I told total) (0+8) K=K (.map I.l):=fun _ _ _=>rfl
  rw [lt_nat,ifB_pos (by omega),idxL_nat (by rw [List.length_map];omega),hget,asLeaf_str,at_of hw.w,l8,amap_at,mp_at hw.l]
  refine (looksM_at s.lk p _).trans ?_
  rw [hpm,cond_true]
  refine (r2 _).trans ?_
  rw [wrap_succ (by omega)]
  rw [show (pre++[p]).length=pre.length+1 by simp] at g3
  rw [List.length_map,List.length_append,List.length_singleton] at g3
  rw [List.length_map,List.length_append,List.length_singleton]
  exact g3
theorem file_loop (k:Nat) {a:Act} {I:Ids} {S0:List LV} {s:Wk} (h:WkAt a I S0 s) (L:List ByteArray) (hL:L.length≤100000) (hm:∀p∈L,(getF s.wr p).isSome=true) (t:Int×ByteArray×LV×LV×Int×Unit) (c:Int) (text:ByteArray) (lv:LV) (cmd:Int) :
  ∀(ps pre:List ByteArray) (n:Nat) (Sx:List LV) (v:LV),L=pre++ps→ps.length<n→Row3 S0 50 (pre.map fun p=>(wfAt s.wr p).lv) v Sx →
  ∃v' S',Row3 S0 50 (L.map fun p=>(wfAt s.wr p).lv) v' S'∧∀{R:Type} (J4:(Int×ByteArray×LV×LV×Int×Unit)×(Int×ByteArray×LV×LV×Int×Unit)×Unit→List LV→Option R),
   rounds (G.Qac.b2 k J4) n (t,(I.w,0),(c,text,v,lv,cmd,()),L.map .str,(L.length:Int),(pre.length:Int),()) Sx=J4 (t,(c,text,v',lv,cmd,()),()) S'
 |ps,pre,0,Sx,v,e,hn,hr=>absurd hn (Nat.not_lt_zero _)
 |[],pre,n+1,Sx,v,e,hn,hr=>by
  rw [List.append_nil] at e
  subst e
  refine ⟨v,Sx,hr,fun {R} J4=>?_⟩
  rw [rounds_succ]
  unfold G.Qac.b2
  dsimp only
  rw [lt_nat,ifB_neg (Nat.lt_irrefl _)]
 |p::ps,pre,n+1,Sx,v,e,hn,hr=>by
  have hlen:L.length=pre.length+(ps.length+1):=by rw [e];simp
  have hget:(L.map LV.str).getD pre.length .any = .str p:=by rw [e];simp [List.getD_eq_getElem?_getD]
  have hpm:=hm p (by rw [e];simp)
  obtain ⟨i,S1,r1,r2⟩:=row3_app hr (by rw [List.length_map];omega) (b:=48) (by omega) (wfAt s.wr p).lv
  have hw:=h.pre hr.1
  have e2:(pre.map fun p=>(wfAt s.wr p).lv)++[(wfAt s.wr p).lv]=(pre++[p]).map fun p=>(wfAt s.wr p).lv:=by rw [List.map_append];rfl
  rw [e2] at r1 r2
  obtain ⟨v',S',g1,g2⟩:=file_loop k h L hL hm t c text lv cmd ps (pre++[p]) n S1 _ (by rw [e];simp) (by simp at hn;omega) r1
  refine ⟨v',S',g1,fun {R} J4=>?_⟩
  have g3:=g2 J4
  rw [rounds_succ]
  unfold G.Qac.b2
  dsimp only
  rw [lt_nat,ifB_pos (by omega),idxL_nat (by rw [List.length_map];omega),hget,asLeaf_str,at_of hw.w,c7_at,amap_at,mp_at hw.o,filesM_get]
  refine (file_cells _ _).trans ?_
  have e3:fileT (getF s.wr p)=((wfAt s.wr p).p,(wfAt s.wr p).r,bytesL (wfAt s.wr p).b,()):=by
   unfold wfAt
   cases hf:getF s.wr p with
   |none=>rw [hf] at hpm;cases hpm
   |some x=>rfl
  rw [e3]
  refine (r2 _).trans ?_
  rw [wrap_succ (by omega)]
  rw [show (pre++[p]).length=pre.length+1 by simp] at g3
  rw [List.length_map,List.length_append,List.length_singleton] at g3
  rw [List.length_map,List.length_append,List.length_singleton]
  exact g3
theorem putF_new:∀{l:List WF} {f:WF},f.p∉l.map WF.p→putF l f=l++[f]
 |[],f,_=>rfl
 |x::l,f,h=>by
  rw [List.map_cons,List.mem_cons,not_or] at h
  unfold putF
  rw [decide_eq_false (fun e=>h.1 e.symm),cond_false,putF_new h.2];rfl
theorem in_loop (k:Nat) {a:Act} {I:Ids} (files:List File) (hl:files.length≤1000) (hn:(files.map File.p).Nodup) (t:Int×ByteArray×LV×LV×Int×Unit) :
  ∀(fs pre:List File) (n:Nat) (S:List LV),files=pre++fs→fs.length<n→WkAt a I S ⟨pre.map toWF,[],[],bs [],0⟩ →
  ∃S',WkAt a I S' ⟨files.map toWF,[],[],bs [],0⟩∧S'.length=S.length∧(∀id,id≠I.i→S'.getD id .any=S.getD id .any)∧∀{R:Type} (J0:(Int×ByteArray×LV×LV×Int×Unit)×(Nat×Nat)×Unit→List LV→Option R),
   rounds (G.Qac.b0 k J0) n (t,(I.w,0),files.map File.lv,(files.length:Int),(pre.length:Int),()) S=J0 (t,(I.w,0),()) S'
 |fs,pre,0,S,e,hf,h=>absurd hf (Nat.not_lt_zero _)
 |[],pre,n+1,S,e,hf,h=>by
  rw [List.append_nil] at e
  subst e
  refine ⟨S,h,rfl,fun _ _=>rfl,fun {R} J0=>?_⟩
  rw [rounds_succ]
  unfold G.Qac.b0
  dsimp only
  rw [lt_nat,ifB_neg (Nat.lt_irrefl _)]
 |f::fs,pre,n+1,S,e,hf,h=>by
  have hlen:files.length=pre.length+(fs.length+1):=by rw [e];simp
  have hget:(files.map File.lv).getD pre.length .any=f.lv:=by rw [e];simp [List.getD_eq_getElem?_getD]
  have hne:=h.ne
  have hnew:(toWF f).p∉(pre.map toWF).map WF.p:=by
   rw [e,List.map_append,List.nodup_append] at hn
   intro hm
   rw [List.map_map] at hm
   exact hn.2.2 f.p hm f.p (by simp) rfl
  have hput:=filesM_put (pre.map toWF) (toWF f)
  rw [putF_new hnew] at hput
  have e2:pre.map toWF++[toWF f]=(pre++[f]).map toWF:=by rw [List.map_append];rfl
  rw [e2] at hput
  have hi:=getD_lt h.i (by simp)
  have h1:WkAt a I (S.set I.i (.mp .str (filesM ((pre++[f]).map toWF)))) ⟨(pre++[f]).map toWF,[],[],bs [],0⟩ :=
   ⟨by rw [getD_set_other _ _ hne.1];exact h.w,getD_set_self _ _ _ hi,by rw [getD_set_other _ _ (Ne.symm h.io)];exact h.o,by rw [getD_set_other _ _ (Ne.symm h.il)];exact h.l,h.io,h.il,h.ol⟩
  obtain ⟨S',g1,g2,g3,g4⟩:=in_loop k files hl hn t fs (pre++[f]) n _ (by rw [e];simp) (by simp at hf;omega) h1
  refine ⟨S',g1,by rw [g2,List.length_set],fun id hid=>by rw [g3 id hid,getD_set_other _ _ hid],fun {R} J0=>?_⟩
  have g5:=g4 J0
  rw [rounds_succ]
  unfold G.Qac.b0
  dsimp only
  have l6:∀(told:ByteArray) (total:Int) (K:LV→Option R),ldRaw (cellsW a I told total) (0+6) K=K (.map I.i):=fun _ _ _=>rfl
  rw [lt_nat,ifB_pos (by omega),idxL_nat (by rw [List.length_map];omega),hget,File.mat]
  show asSl 1 f.leaf _=_
  rw [f.sl,at_of h.w,l6,amap_at,mp_at h.i,setS_of,wrap_succ (by omega)]
  show rounds (G.Qac.b0 k J0) n (t,(I.w,0),files.map File.lv,(files.length:Int),((pre.length+1:Nat):Int),()) (S.set I.i (.mp .str (mapPut (filesM (pre.map toWF)) (.str (toWF f).p) (toWF f).lv)))=_
  rw [hput]
  rw [show (pre++[f]).length=pre.length+1 by simp] at g5
  exact g5
end
end Go.Lm
set_option maxRecDepth 100000
namespace Go.Lm
section
theorem GlobOk.pre {S S':List LV} (g:GlobOk S) (hp:Pre S S'):GlobOk S':=by
 obtain ⟨i,e,fz,n,h1⟩:=g.num
 obtain ⟨j,e2,fz2,h2⟩:=g.pow
 exact ⟨⟨i,e,fz,n,(hp.old _ (getD_lt h1 (by simp))).trans h1⟩,⟨j,e2,fz2,(hp.old _ (getD_lt h2 (by simp))).trans h2⟩⟩
theorem Row3.pre {S0:List LV} {e:Nat} {T:List LV} {v:LV} {Sx Sy:List LV} (h:Row3 S0 e T v Sx) (hp:Pre Sx Sy):Row3 S0 e T v Sy:=by
 obtain ⟨h1,h2|⟨id,h3,h4,h5⟩⟩:=h
 ·exact ⟨h1.trans hp,.inl h2⟩
 ·exact ⟨h1.trans hp,.inr ⟨id,h3,h4,(hp.old _ (getD_lt h5 (by simp))).trans h5⟩⟩
def Wds (a:Act) (p:ByteArray):Prop:=∃c∈a.cmds,p∈c
theorem getF_mem {l:List WF} {p:ByteArray} (h:(getF l p).isSome=true):p∈l.map WF.p:=by
 cases hf:getF l p with
 |none=>rw [hf] at h;cases h
 |some f=>exact List.mem_map.2 ⟨f,List.mem_of_find?_eq_some hf,getF_p hf⟩
theorem flat_len:∀{l:List (List ByteArray)} {n:Nat},(∀c∈l,c.length≤n)→l.flatten.length≤l.length*n
 |[],_,_=>Nat.zero_le _
 |c::l,n,h=>by
  have h1:=h c (by simp)
  have h2:=flat_len (l:=l) fun c hc=>h c (by simp [hc])
  rw [List.flatten_cons,List.length_append,List.length_cons,Nat.succ_mul];omega
theorem WInv.lkl {a:Act} {F:List WF} {s:Wk} {q:ByteArray} (hF:FBd F) (hl:a.cmds.length≤50) (hc:∀c∈a.cmds,c.length≤50) (h:WInv a F (fun p=>Wds a p∨p=q) s):s.lk.length≤3501:=by
 have h1:=nodup_len (m:=F.map WF.p++a.cmds.flatten++[q]) h.lkn fun p hp=>by
  obtain ⟨x,hx,rfl⟩:=List.mem_map.1 hp
  obtain ⟨_,_,h3⟩:=h.lk x hx
  simp only [List.mem_append,List.mem_singleton,List.mem_flatten]
  rcases h3 with (⟨c,h4,h5⟩|h4)|h4
  ·exact .inl (.inr ⟨c,h4,h5⟩)
  ·exact .inr h4
  ·exact .inl (.inl (getF_mem h4))
 have h2:=flat_len hc
 have h3:a.cmds.length*50≤50*50:=Nat.mul_le_mul_right _ hl
 have h4:=hF.len
 simp only [List.length_map,List.length_append,List.length_singleton] at h1
 omega
theorem looks_kb (l:List LkE):KeysB (looksM l) (l.map LkE.p):=by unfold KeysB looksM;rw [List.map_map,List.map_map];rfl
theorem files_kb (l:List WF):KeysB (filesM l) (l.map WF.p):=by unfold KeysB filesM;rw [List.map_map,List.map_map];rfl
theorem Pre.trans2 {I:Ids} {S S' S'':List LV} (h:Pre S S') (g:Grow I S' S'') (ho:S.length≤I.o) (hl:S.length≤I.l) (hw:S.length≤I.w):Pre S S'' :=
 ⟨Nat.le_trans h.len g.len,fun j hj=>(g.old j (Nat.lt_of_lt_of_le hj h.len) (by omega) (by omega) (by omega)).trans (h.old j hj)⟩
theorem WInv.zero (a:Act) (F:List WF) (W:ByteArray→Prop):WInv a F W ⟨F,[],[],bs [],0⟩ :=
 ⟨rfl,by simp,fun f hf=>(by cases hf),⟨rfl,Nat.zero_le _⟩,⟨Nat.zero_le _,fun b hb=>(by cases hb),.inl rfl⟩,by simp,fun x hx=>(by cases hx)⟩
theorem exec0 {k:Nat} (hk:Many k) {a:Act} (ok:ActOk a) {files:List File} (fo:FilesOk files) (hb:bothS a files=0) {ms:List Cm} (hms:a.cmds=ms.map Cm.words) (hmo:∀m∈ms,m.Ok) {S:List LV} (hg:GlobOk S) :
  ∃S',Pre S S'∧∀{R:Type} (K:RT×Int×Unit→List LV→Option R),G.Qac.fn0 k (a.tup,files.map File.lv,()) S K=K ((execS k a ms (files.map toWF)).tup,0,()) S':=by
 have hk2:=hk
 unfold Many at hk2
 obtain ⟨h1,h2⟩:=bothS_ok hb
 have ha:=act_facts h1
 have hf:=file_facts h2
 have A:=ha.bd
 have Fb:=hf.bd
 have hWm:∀m∈ms,m.Ok∧∀w∈m.words,Wds a w:=fun m hm=>⟨hmo m hm,fun w hw=>⟨m.words,by rw [hms];exact List.mem_map_of_mem hm,hw⟩⟩
 have hcl:∀c∈a.cmds,c.length≤50:=fun c hc=>by
  rw [hms] at hc
  obtain ⟨m,hm,rfl⟩:=List.mem_map.1 hc
  exact (hmo m hm).len
 let S1:=S++[LV.mp .str []]
 let S2:=S1++[LV.mp .str []]
 let S3:=S2++[LV.mp .str []]
 let I:Ids:=⟨S.length,S1.length,S2.length,S3.length⟩
 let S4:=S3++[LV.obj 74 (cellsW a I (bs []) 0)]
 have e1:S1.length=S.length+1:=by simp [S1]
 have e2:S2.length=S.length+2:=by simp [S2,e1]
 have e3:S3.length=S.length+3:=by simp [S3,e2]
 have e4:S4.length=S.length+4:=by simp [S4,e3]
 have p4:Pre S S4:=(((Pre.app S _).trans (Pre.app S1 _)).trans (Pre.app S2 _)).trans (Pre.app S3 _)
 have w4:WkAt a I S4 ⟨[],[],[],bs [],0⟩:=⟨get_last _ _,by
   show S4.getD S.length .any=_
   exact getD_app (getD_app (getD_app (get_last _ _) (by simp) _) (by simp) _) (by simp) _,by
   show S4.getD S1.length .any=_
   exact getD_app (getD_app (get_last _ _) (by simp) _) (by simp) _,by
   show S4.getD S2.length .any=_
   exact getD_app (get_last _ _) (by simp) _,by show S.length≠S1.length;omega,by show S.length≠S2.length;omega,by show S1.length≠S2.length;omega⟩
 obtain ⟨S5,w5,l5,o5,r5⟩:=in_loop k files hf.len hf.sorted.nodup ((0:Int),bs [],LV.nilsl,LV.nilsl,(0:Int),()) files [] k S4 rfl (by have:=hf.len;omega) w4
 have p5:Pre S S5:=⟨by omega,fun j hj=>(o5 j (by show j≠S.length;omega)).trans (p4.old j hj)⟩
 have i0:WInv a (files.map toWF) (Wds a) ⟨files.map toWF,[],[],bs [],0⟩:=WInv.zero _ _ _
 obtain ⟨S6,w6,g6,r6⟩:=run_at hk A Fb ha.cmds hms w5 i0 (hg.pre p5) hWm
 have p6:Pre S S6:=p5.trans2 g6 (by show S.length≤S1.length;omega) (by show S.length≤S2.length;omega) (by show S.length≤S3.length;omega)
 have inv:=i0.runs A Fb k ms 0 hWm
 obtain ⟨q,iq⟩:=inv.one.2
 have hex:execS k a ms (files.map toWF)=outR (runL k a ms 0 ⟨files.map toWF,[],[],bs [],0⟩).1 (runL k a ms 0 ⟨files.map toWF,[],[],bs [],0⟩).2.1 (runL k a ms 0 ⟨files.map toWF,[],[],bs [],0⟩).2.2:=rfl
 rw [hex]
 have start:∀{R:Type} (K:RT×Int×Unit→List LV→Option R),G.Qac.fn0 k (a.tup,files.map File.lv,()) S K =
   rounds (G.Qac.b0 k (fun o15 S=>G.Qbi.fn k o15.2 S fun r16 S=>objAt S o15.2.1.1 fun ty c17=>ldStr c17 (o15.2.1.2+9) fun s18=>objAt S o15.2.1.1 fun ty c19=>ldRaw c19 (o15.2.1.2+8) fun v20=>asMap v20 fun i21=>G.Qcg.fn k (i21,()) S fun r22 S=>H.SortedL.fn k r22 S fun r23 S=>rounds (G.Qac.b1 k (fun o37 S=>ifB (o37.2.2.1.1==0) (objAt S o37.2.1.1 fun ty c38=>ldRaw c38 (o37.2.1.2+7) fun v39=>asMap v39 fun i40=>G.Qcf.fn k (i40,()) S fun r41 S=>H.SortedF.fn k r41 S fun r42 S=>rounds (G.Qac.b2 k (fun o56 S=>G.Qac.q0 k K o56 S)) k (o37.1,o37.2.1,o37.2.2.1,r42.1,(r42.1.length:Int),0,()) S) (G.Qac.q0 k K (o37.1,o37.2.2) S))) k (o15.1,o15.2.1,(r16.1,s18,.nilsl,.nilsl,r16.2),r23.1,(r23.1.length:Int),0,()) S)) k (((0:Int),(bs []),.nilsl,.nilsl,0,()),(I.w,0),files.map File.lv,(files.length:Int),0,()) S4:=fun {R} K=>by
  unfold G.Qac.fn0
  dsimp only
  rw [both_at hk a ok files fo]
  dsimp only
  rw [hb,show ((0:Int) != 0)=false from rfl,ifB_false]
  unfold newObj
  dsimp only
  rw [List.length_map]
  rfl
 generalize runL k a ms 0 ⟨files.map toWF,[],[],bs [],0⟩=rr at w6 r6 iq ⊢
 obtain ⟨c,cmd,s⟩:=rr
 dsimp only at w6 r6 iq ⊢
 have hlk:=WInv.lkl Fb ha.cmds hcl iq
 have hlks:∀p∈s.lk.map LkE.p,p.size≤100000:=fun p hp=>by
  obtain ⟨x,hx,rfl⟩:=List.mem_map.1 hp
  have:=path_size (iq.lk x hx).2.1;omega
 have hwrl:=iq.wrl
 have hwrs:∀p∈s.wr.map WF.p,p.size≤100000:=fun p hp=>by
  obtain ⟨x,hx,rfl⟩:=List.mem_map.1 hp
  have:=path_size (A.path _ (iq.wro x hx).1);omega
 have houts:=ha.outs.len
 have kok:=keysok (looks_kb s.lk) (by rw [List.length_map];omega) hlks
 have kof:=keysok (files_kb s.wr) (by rw [List.length_map];omega) hwrs
 let S7:=S6++[LV.obj 72 [.map I.l]]
 have w7:WkAt a I S7 s:=w6.appE _
 have p7:Pre S S7:=p6.trans (Pre.app _ _)
 have hLl:(sortP (s.lk.map LkE.p)).length≤100000:=by rw [(sortP_perm _).length_eq,List.length_map];omega
 obtain ⟨v8,S8,row8,r8⟩:=look_loop k w7 (sortP (s.lk.map LkE.p)) hLl (fun p hp=>(hasL_iff _ _).2 ((sortP_perm _).mem_iff.1 hp)) ((0:Int),bs [],LV.nilsl,LV.nilsl,(0:Int),()) c s.told .nilsl cmd (sortP (s.lk.map LkE.p)) [] k S7 .nilsl rfl (by omega) ⟨Pre.refl _,.inl ⟨rfl,rfl⟩⟩
 have l8:∀{R:Type} (told:ByteArray) (total:Int) (K:LV→Option R),ldRaw (cellsW a I told total) (0+8) K=K (.map I.l):=fun _ _ _=>rfl
 have two:∀{R:Type} (K:RT×Int×Unit→List LV→Option R),G.Qac.fn0 k (a.tup,files.map File.lv,()) S K =
   ifB (c==0) (objAt S8 I.w fun ty c38=>ldRaw c38 (0+7) fun v39=>asMap v39 fun i40=>G.Qcf.fn k (i40,()) S8 fun r41 S=>H.SortedF.fn k r41 S fun r42 S=>rounds (G.Qac.b2 k (fun o56 S=>G.Qac.q0 k K o56 S)) k (((0:Int),(bs []),.nilsl,.nilsl,0,()),(I.w,0),(c,s.told,.nilsl,v8,cmd,()),r42.1,(r42.1.length:Int),0,()) S) (G.Qac.q0 k K (((0:Int),(bs []),.nilsl,.nilsl,0,()),(c,s.told,.nilsl,v8,cmd,()),()) S8):=fun {R} K=>by
  rw [start]
  refine (r5 _).trans ?_
  refine (r6 _).trans ?_
  dsimp only
  rw [at_of w6.w,c9_at,at_of w6.w,l8,amap_at]
  unfold G.Qcg.fn newObj
  dsimp only
  show H.SortedL.fn k (((S6.length,0),()),()) S7 _=_
  rw [sortedL_at k (get_last _ _) w7.l kok,looks_keys]
  dsimp only
  rw [List.length_map]
  exact (r8 _).trans rfl
 have w8:=w7.pre row8.1
 have p8:Pre S S8:=p7.trans row8.1
 have ell:∀x∈(sortP (s.lk.map LkE.p)).map fun p=>(lkAt s.lk p).lv,El x:=fun x hx=>by
  obtain ⟨p,_,rfl⟩:=List.mem_map.1 hx
  exact El.lk _
 have elf:∀x∈(sortP (s.wr.map WF.p)).map fun p=>(wfAt s.wr p).lv,El x:=fun x hx=>by
  obtain ⟨p,_,rfl⟩:=List.mem_map.1 hx
  exact El.wf _
 have lkm:(sortP (s.lk.map LkE.p)).map (fun p=>(lkAt s.lk p).lv)=((sortP (s.lk.map LkE.p)).map (lkAt s.lk)).map LkE.lv:=by rw [List.map_map];rfl
 have wfm:(sortP (s.wr.map WF.p)).map (fun p=>(wfAt s.wr p).lv)=((sortP (s.wr.map WF.p)).map (wfAt s.wr)).map WF.lv:=by rw [List.map_map];rfl
 cases hc:c==0 with
 |false =>
  obtain ⟨S9,p9,r9⟩:=frz3 row8 ell (by rw [List.length_map];omega)
  refine ⟨S9,p7.trans p9,fun {R} K=>?_⟩
  rw [two,hc,ifB_false]
  unfold G.Qac.q0
  dsimp only
  have fz:∀(K:List LV→List LV→Option R),frzO 3 .nilsl S8 K=K [] S8:=fun _=>rfl
  rw [fz,r9,lkm]
  unfold outR RS.tup
  dsimp only
  rw [hc]
  rfl
 |true =>
  let S9:=S8++[LV.obj 71 [.map I.o]]
  have w9:WkAt a I S9 s:=w8.appE _
  have hLf:(sortP (s.wr.map WF.p)).length≤100000:=by rw [(sortP_perm _).length_eq,List.length_map];omega
  obtain ⟨v10,S10,row10,r10⟩:=file_loop k w9 (sortP (s.wr.map WF.p)) hLf (fun p hp=>getF_some ((sortP_perm _).mem_iff.1 hp)) ((0:Int),bs [],LV.nilsl,LV.nilsl,(0:Int),()) c s.told v8 cmd (sortP (s.wr.map WF.p)) [] k S9 .nilsl rfl (by omega) ⟨Pre.refl _,.inl ⟨rfl,rfl⟩⟩
  obtain ⟨S11,p11,r11⟩:=frz3 row10 elf (by rw [List.length_map];omega)
  have row11:=row8.pre ((Pre.app S8 _).trans p11)
  obtain ⟨S12,p12,r12⟩:=frz3 row11 ell (by rw [List.length_map];omega)
  refine ⟨S12,p7.trans p12,fun {R} K=>?_⟩
  rw [two,hc,ifB_true,at_of w8.w,c7_at,amap_at]
  unfold G.Qcf.fn newObj
  dsimp only
  show H.SortedF.fn k (((S8.length,0),()),()) S9 _=_
  rw [sortedF_at k (get_last _ _) w9.o kof,files_keys]
  dsimp only
  rw [List.length_map]
  refine (r10 _).trans ?_
  unfold G.Qac.q0
  dsimp only
  rw [r11,r12,lkm,wfm]
  unfold outR RS.tup
  dsimp only
  rw [hc]
  rfl
theorem noId_wf (n:Nat) (l:List WF):(l.map WF.lv).all (noId (n+2))=true:=by
 refine List.all_eq_true.2 fun x hx=>?_
 obtain ⟨f,_,rfl⟩:=List.mem_map.1 hx
 show List.all [LV.str f.p,.bool f.r,.sl 1 (bytesL f.b)] (noId (n+1))=true
 show (noId (n+1) (.str f.p)&&(noId (n+1) (.bool f.r)&&(List.all (bytesL f.b) (noId n)&&true)))=true
 rw [noId_bytesL];rfl
theorem noId_lk (n:Nat) (l:List LkE):(l.map LkE.lv).all (noId (n+2))=true:=by
 refine List.all_eq_true.2 fun x hx=>?_
 obtain ⟨f,_,rfl⟩:=List.mem_map.1 hx
 rfl
theorem rs_noId (r:RS):noId 6 (resE G.Qac.rs (r.tup,(0:Int),()))=true:=by
 show (noId 4 (.int .i64 r.code)&&(noId 4 (.str r.text)&&((r.files.map WF.lv).all (noId 3)&&((r.looks.map LkE.lv).all (noId 3)&&(noId 4 (.int .i64 r.cmd)&&true))))&&(noId 5 (.int .i64 0)&&true))=true
 rw [noId_wf 1,noId_lk 1];rfl
theorem exec_at {k:Nat} (hk:Many k) {a:Act} (ok:ActOk a) {files:List File} (fo:FilesOk files) (hb:bothS a files=0) {ms:List Cm} (hms:a.cmds=ms.map Cm.words) (hmo:∀m∈ms,m.Ok) {S:List LV} (hg:GlobOk S) {R:Type} (K:RT×Int×Unit→List LV→Option R) :
  G.Qac.fn k (a.tup,files.map File.lv,()) S K=K ((execS k a ms (files.map toWF)).tup,0,()) S:=by
 obtain ⟨S',hp,h⟩:=exec0 hk ok fo hb hms hmo hg
 have e:=hp.split
 rw [e] at h
 exact popK_at (h _) (rs_noId _)
theorem exec_err {k:Nat} (hk:Many k) {a:Act} (ok:ActOk a) {files:List File} (fo:FilesOk files) (hb:bothS a files≠0) (S:List LV) {R:Type} (K:RT×Int×Unit→List LV→Option R) :
  G.Qac.fn k (a.tup,files.map File.lv,()) S K=K (((0:Int),bs [],[],[],0,()),bothS a files,()) S:=by
 have h:∀(K:RT×Int×Unit→List LV→Option (LV×List LV)),G.Qac.fn0 k (a.tup,files.map File.lv,()) S K=K (((0:Int),bs [],[],[],0,()),bothS a files,()) (S++[]):=fun K=>by
  unfold G.Qac.fn0
  dsimp only
  rw [both_at hk a ok files fo,List.append_nil]
  dsimp only
  have:(bothS a files==0)=false:=by rw [beq_eq_false_iff_ne];exact hb
  rw [bne,this]
  rfl
 exact popK_at (h _) rfl
end
end Go.Lm
set_option maxRecDepth 100000
namespace Go.Lm
section
variable {R:Type}
def LkE.lk (x:LkE):Look:=⟨x.p,x.d,x.r⟩
theorem lkAt_mem {l:List LkE} {p:ByteArray} (h:p∈l.map LkE.p):lkAt l p∈l∧(lkAt l p).p=p:=by
 unfold lkAt
 cases hf:l.find? fun x=>decide (x.p=p) with
 |some x=>exact ⟨List.mem_of_find?_eq_some hf,by have:=List.find?_some hf;exact of_decide_eq_true this⟩
 |none =>
  obtain ⟨x,hx,e⟩:=List.mem_map.1 h
  have:=List.find?_eq_none.1 hf x hx
  exact absurd (decide_eq_true e) this
structure OutFactsR (a:Act) (F:List WF) (r:RS):Prop where
 len:r.looks.length≤3501
 look:∀x∈r.looks,x=lookOf F x.p∧isPathS x.p=true
 sort:SortedB (r.looks.map LkE.p)
theorem map_lkAt (l:List LkE):((sortP (l.map LkE.p)).map (lkAt l)).map LkE.p=sortP (l.map LkE.p):=by
 rw [List.map_map]
 refine (List.map_congr_left fun p hp=>?_).trans (List.map_id _)
 exact (lkAt_mem ((sortP_perm _).mem_iff.1 hp)).2
theorem out_facts {a:Act} {F:List WF} {s:Wk} {q:ByteArray} (hF:FBd F) (ha:ActFacts a) (hc:∀c∈a.cmds,c.length≤50) (h:WInv a F (fun p=>Wds a p∨p=q) s) (c cmd:Int):OutFactsR a F (outR c cmd s):=by
 refine ⟨?_,fun x hx=>?_,?_⟩
 ·show ((sortP (s.lk.map LkE.p)).map (lkAt s.lk)).length≤_
  rw [List.length_map,(sortP_perm _).length_eq,List.length_map]
  exact h.lkl hF ha.cmds hc
 ·obtain ⟨p,hp,rfl⟩:=List.mem_map.1 hx
  have:=lkAt_mem ((sortP_perm _).mem_iff.1 hp)
  obtain ⟨h1,h2,_⟩:=h.lk _ this.1
  exact ⟨h1,h2⟩
 ·show SortedB (((sortP (s.lk.map LkE.p)).map (lkAt s.lk)).map LkE.p)
  rw [map_lkAt]
  exact sortP_sorted h.lkn
theorem exec_cases {k:Nat} (hk:Many k) {a:Act} (ok:ActOk a) {files:List File} (fo:FilesOk files) {S:List LV} (hg:GlobOk S) :
  (bothS a files≠0∧∀{R:Type} (K:RT×Int×Unit→List LV→Option R),G.Qac.fn k (a.tup,files.map File.lv,()) S K=K (((0:Int),bs [],[],[],0,()),bothS a files,()) S) ∨
  (bothS a files=0∧∃ms:List Cm,a.cmds=ms.map Cm.words∧(∀m∈ms,m.Ok)∧∀{R:Type} (K:RT×Int×Unit→List LV→Option R),G.Qac.fn k (a.tup,files.map File.lv,()) S K=K ((execS k a ms (files.map toWF)).tup,0,()) S):=by
 by_cases hb:bothS a files=0
 ·obtain ⟨ms,h1,h2⟩:=cms_of (act_facts (bothS_ok hb).1).cmd
  exact .inr ⟨hb,ms,h1,h2,fun K=>exec_at hk ok fo hb h1 h2 hg K⟩
 ·exact .inl ⟨hb,fun K=>exec_err hk ok fo hb S K⟩
theorem words_in {a:Act} {ms:List Cm} (h1:a.cmds=ms.map Cm.words) (h2:∀m∈ms,m.Ok):(∀m∈ms,m.Ok∧∀w∈m.words,Wds a w)∧∀c∈a.cmds,c.length≤50 :=
 ⟨fun m hm=>⟨h2 m hm,fun w hw=>⟨m.words,by rw [h1];exact List.mem_map_of_mem hm,hw⟩⟩,fun c hc=>by
  rw [h1] at hc
  obtain ⟨m,hm,rfl⟩:=List.mem_map.1 hc
  exact (h2 m hm).len⟩
theorem ran_inv (k:Nat) {a:Act} {files:List File} (hb:bothS a files=0) {ms:List Cm} (h1:a.cmds=ms.map Cm.words) (h2:∀m∈ms,m.Ok) :
  WInv2 a (files.map toWF) (Wds a) (ms.any Cm.isExp) (run0 k a ms (files.map toWF)).1 (run0 k a ms (files.map toWF)).2.2 :=
 (WInv.zero a _ _).runs (act_facts (bothS_ok hb).1).bd (file_facts (bothS_ok hb).2).bd k ms 0 (words_in h1 h2).1
theorem ran_out (k:Nat) {a:Act} {files:List File} (hb:bothS a files=0) {ms:List Cm} (h1:a.cmds=ms.map Cm.words) (h2:∀m∈ms,m.Ok):OutFactsR a (files.map toWF) (execS k a ms (files.map toWF)):=by
 obtain ⟨q,hq⟩:=(ran_inv k hb h1 h2).one.2
 exact out_facts (file_facts (bothS_ok hb).2).bd (act_facts (bothS_ok hb).1) (words_in h1 h2).2 hq _ _
end
end Go.Lm
set_option maxRecDepth 100000
namespace Go.Lm
section
def setI (G:List WF) (s:Wk):Wk:={ s with inp:=G }
def AgrF (F G:List WF) (l:List LkE):Prop:=∀x∈l,getF F x.p=getF G x.p
structure Ext2 (s s':Wk):Prop where
 inp:s'.inp=s.inp
 lk:∀x∈s.lk,x∈s'.lk
theorem Ext2.refl (s:Wk):Ext2 s s:=⟨rfl,fun _ h=>h⟩
theorem Ext2.trans {s s' s'':Wk} (h:Ext2 s s') (h':Ext2 s' s''):Ext2 s s'':=⟨h'.inp.trans h.inp,fun x hx=>h'.lk x (h.lk x hx)⟩
variable {F G:List WF} {α β:Type}
def Good (F G:List WF) (T:Wk→α×Wk):Prop:=∀s,s.inp=F→Ext2 s (T s).2∧(AgrF F G (T s).2.lk→T (setI G s)=((T s).1,setI G (T s).2))
theorem good_bind {T:Wk→α×Wk} {U:α→Wk→β×Wk} (hT:Good F G T) (hU:∀a,Good F G (U a)):Good F G (fun s=>U (T s).1 (T s).2):=fun s hs=>by
 obtain ⟨e1,h1⟩:=hT s hs
 obtain ⟨e2,h2⟩:=hU (T s).1 (T s).2 (e1.inp.trans hs)
 refine ⟨e1.trans e2,fun ha=>?_⟩
 have h3:=h1 fun x hx=>ha x (e2.lk x hx)
 show U (T (setI G s)).1 (T (setI G s)).2=_
 rw [h3]
 exact h2 ha
theorem good_pure (a:α):Good F G (fun s=>(a,s)):=fun s _=>⟨Ext2.refl s,fun _=>rfl⟩
theorem good_congr {T T':Wk→α×Wk} (h:Good F G T') (e:∀s,T s=T' s):Good F G T:=by
 have:T=T':=funext e
 rw [this];exact h
theorem good_find (p:ByteArray):Good F G (fun s=>findS s p):=fun s hs=>by
 show Ext2 s (findS s p).2∧(AgrF F G (findS s p).2.lk→findS (setI G s) p=((findS s p).1,setI G (findS s p).2))
 unfold findS
 have e0:getF (setI G s).wr p=getF s.wr p:=rfl
 rw [e0]
 cases hw:getF s.wr p with
 |some f=>exact ⟨Ext2.refl s,fun _=>rfl⟩
 |none =>
  dsimp only
  have hin:∃x∈(addL s p).lk,x.p=p:=by
   unfold addL
   cases hh:hasL s.lk p with
   |true =>
    obtain ⟨x,hx,e⟩:=List.mem_map.1 ((hasL_iff _ _).1 hh)
    exact ⟨x,hx,e⟩
   |false=>exact ⟨lookOf s.inp p,by show _∈s.lk++[lookOf s.inp p];simp,lookOf_p _ _⟩
  refine ⟨⟨?_,fun x hx=>?_⟩,fun ha=>?_⟩
  ·unfold addL;cases hasL s.lk p<;>rfl
  ·unfold addL
   cases hasL s.lk p with
   |true=>exact hx
   |false=>exact List.mem_append_left _ hx
  ·obtain ⟨x,hx,e⟩:=hin
   have hg:=ha x hx
   rw [e] at hg
   have e1:(getF (setI G s).inp p)=getF s.inp p:=by rw [hs];exact hg.symm
   have e2:lookOf (setI G s).inp p=lookOf s.inp p:=by unfold lookOf;rw [e1]
   rw [e1]
   congr 1
   unfold addL
   rw [e2]
   show cond (hasL s.lk p) (setI G s) _=_
   cases hasL s.lk p<;>rfl
theorem good_read (p:ByteArray):Good F G (fun s=>readS s p):=good_bind (F:=F) (G:=G) (T:=fun s=>findS s p) (U:=fun (o:Option WF) s=>(o.map WF.b,s)) (good_find p) (fun a=>good_pure (F:=F) (G:=G) _)
def pickU (ps:List ByteArray) (o:Option WF) (s:Wk):Option ByteArray×Wk:=match o with
 |some f=>(some f.b,s)
 |none=>pickS ps s
theorem good_pick:∀l:List ByteArray,Good F G (fun s=>pickS l s)
 |[]=>good_pure (F:=F) (G:=G) (none:Option ByteArray)
 |p::ps=>good_bind (F:=F) (G:=G) (T:=fun s=>findS s p) (U:=pickU ps) (good_find p) fun o=>by
  cases o with
  |some f=>exact good_pure (F:=F) (G:=G) (some f.b)
  |none=>exact good_pick ps
def joinU (acc:ByteArray) (ps:List ByteArray) (o:Option WF) (s:Wk):Option ByteArray×Wk:=match o with
 |some f=>joinedS (acc++f.b) ps s
 |none=>(none,s)
theorem good_joined:∀(l:List ByteArray) (acc:ByteArray),Good F G (fun s=>joinedS acc l s)
 |[],acc=>good_pure (F:=F) (G:=G) (some acc)
 |p::ps,acc=>good_bind (F:=F) (G:=G) (T:=fun s=>findS s p) (U:=joinU acc ps) (good_find p) fun o=>by
  cases o with
  |some f=>exact good_joined ps _
  |none=>exact good_pure (F:=F) (G:=G) (none:Option ByteArray)
def sameU (q:ByteArray) (o:Option ByteArray) (s:Wk):Int×Wk:=match o with
 |none=>(2,s)
 |some b=>match (readS s q).1 with
  |none=>(2,(readS s q).2)
  |some c=>(cond (strEq b c) 0 4,(readS s q).2)
def sameV (b:ByteArray) (o:Option ByteArray) (s:Wk):Int×Wk:=match o with
 |none=>(2,s)
 |some c=>(cond (strEq b c) 0 4,s)
theorem good_same (p q:ByteArray):Good F G (fun s=>sameS s p q) :=
 good_bind (F:=F) (G:=G) (T:=fun s=>readS s p) (U:=sameU q) (good_read p) fun o=>by
  cases o with
  |none=>exact good_pure (F:=F) (G:=G) (2:Int)
  |some b =>
   exact good_bind (F:=F) (G:=G) (T:=fun s=>readS s q) (U:=sameV b) (good_read q) fun o=>by
    cases o with
    |none=>exact good_pure (F:=F) (G:=G) (2:Int)
    |some c=>exact good_pure (F:=F) (G:=G) (cond (strEq b c) (0:Int) 4)
theorem good_tell (ws:List ByteArray):Good F G (fun s=>tellS s ws):=fun s hs=>by
 show Ext2 s (tellS s ws).2∧(AgrF F G (tellS s ws).2.lk→tellS (setI G s) ws=((tellS s ws).1,setI G (tellS s ws).2))
 unfold tellS
 have e:(setI G s).told=s.told:=rfl
 rw [e]
 cases decide ((s.told++joinS ws++bs [10]).size>100000) with
 |true=>exact ⟨Ext2.refl s,fun _=>rfl⟩
 |false=>exact ⟨⟨rfl,fun _ h=>h⟩,fun _=>rfl⟩
theorem good_write (a:Act) (p b:ByteArray) (run:Bool):Good F G (fun s=>writeS a s p b run):=fun s hs=>by
 show Ext2 s (writeS a s p b run).2∧(AgrF F G (writeS a s p b run).2.lk→writeS a (setI G s) p b run=((writeS a s p b run).1,setI G (writeS a s p b run).2))
 unfold writeS
 have e:oldN (setI G s) p=oldN s p:=rfl
 have e2:(setI G s).total=s.total:=rfl
 rw [e,e2]
 cases a.outs.any (strEq p) with
 |false=>exact ⟨Ext2.refl s,fun _=>rfl⟩
 |true =>
  rw [cond_true,cond_true]
  cases decide (b.size>100000) with
  |true=>exact ⟨Ext2.refl s,fun _=>rfl⟩
  |false =>
   rw [cond_false,cond_false]
   cases decide (s.total-(oldN s p:Int)+b.size>2000000) with
   |true=>exact ⟨Ext2.refl s,fun _=>rfl⟩
   |false=>exact ⟨⟨rfl,fun _ h=>h⟩,fun _=>rfl⟩
abbrev ET:=Int×ByteArray×Nat
def etOf (r:Int×ES):ET×Wk:=((r.1,r.2.out,r.2.reads),r.2.wk)
def incU (rec:ByteArray→ES→Int×ES) (ls:List ByteArray) (o:ET) (s:Wk):ET×Wk:=cond (o.1==0) (etOf (incS rec ls ⟨s,o.2.1,o.2.2⟩)) (o,s)
def recT (rec:ByteArray→ES→Int×ES) (p out:ByteArray) (n:Nat) (s:Wk):ET×Wk:=etOf (rec p ⟨s,out,n⟩)
def incT (rec:ByteArray→ES→Int×ES) (L:List ByteArray) (out:ByteArray) (n:Nat) (s:Wk):ET×Wk:=etOf (incS rec L ⟨s,out,n⟩)
theorem good_inc {rec:ByteArray→ES→Int×ES} (hrec:∀p out n,Good F G (recT rec p out n)):∀(L:List ByteArray) (out:ByteArray) (n:Nat),Good F G (incT rec L out n)
 |[],out,n=>good_pure (F:=F) (G:=G) ((0,out,n):ET)
 |l::ls,out,n=>by
  cases hb:(inclS (trimS l)).2&&isPathS (inclS (trimS l)).1 with
  |true =>
   have hbind:=good_bind (F:=F) (G:=G) (T:=recT rec (inclS (trimS l)).1 out n) (U:=incU rec ls) (hrec _ _ _) fun o=>by
    cases hc:o.1==0 with
    |true =>
     refine good_congr (good_inc hrec ls o.2.1 o.2.2) fun s=>?_
     unfold incU incT;rw [hc];rfl
    |false =>
     refine good_congr (good_pure (F:=F) (G:=G) o) fun s=>?_
     unfold incU;rw [hc];rfl
   refine good_congr hbind fun s=>?_
   unfold incT incU recT
   show etOf (cond ((inclS (trimS l)).2&&isPathS (inclS (trimS l)).1) (cond ((rec (inclS (trimS l)).1 ⟨s,out,n⟩).1==0) (incS rec ls (rec (inclS (trimS l)).1 ⟨s,out,n⟩).2) (rec (inclS (trimS l)).1 ⟨s,out,n⟩)) _)=_
   rw [hb,cond_true]
   generalize rec (inclS (trimS l)).1 ⟨s,out,n⟩=r
   show _=cond (r.1==0) (etOf (incS rec ls r.2)) (etOf r)
   cases r.1==0<;>rfl
  |false =>
   cases hd:decide (100000<(out++endedS l).size) with
   |true =>
    refine good_congr (good_pure (F:=F) (G:=G) ((5,out++endedS l,n):ET)) fun s=>?_
    unfold incT
    show etOf (cond ((inclS (trimS l)).2&&isPathS (inclS (trimS l)).1) _ (cond (decide (100000<(out++endedS l).size)) _ _))=_
    rw [hb,hd];rfl
   |false =>
    refine good_congr (good_inc hrec ls (out++endedS l) n) fun s=>?_
    unfold incT
    show etOf (cond ((inclS (trimS l)).2&&isPathS (inclS (trimS l)).1) _ (cond (decide (100000<(out++endedS l).size)) _ _))=_
    rw [hb,hd];rfl
def expU (rec:ByteArray→ES→Int×ES) (out:ByteArray) (rd:Nat) (o:Option ByteArray) (s:Wk):ET×Wk:=match o with
 |none=>((2,out,rd),s)
 |some b=>cond (decide (10000<rd+1)) ((4,out,rd+1),s) (incT rec (linesS b) out (rd+1) s)
theorem good_exp:∀(n:Nat) (ch:List ByteArray) (p out:ByteArray) (rd:Nat),Good F G (recT (expS n ch) p out rd)
 |0,ch,p,out,rd=>good_pure (F:=F) (G:=G) ((4,out,rd):ET)
 |n+1,ch,p,out,rd=>by
  cases hb:ch.any (strEq p)||decide (30<ch.length) with
  |true =>
   refine good_congr (good_pure (F:=F) (G:=G) ((4,out,rd):ET)) fun s=>?_
   unfold recT
   show etOf (cond (ch.any (strEq p)||decide (30<ch.length)) _ _)=_
   rw [hb];rfl
  |false =>
   have hbind:=good_bind (F:=F) (G:=G) (T:=fun s=>readS s p) (U:=expU (expS n (ch++[p])) out rd) (good_read p) fun o=>by
    cases o with
    |none=>exact good_pure (F:=F) (G:=G) ((2,out,rd):ET)
    |some b =>
     cases hd:decide (10000<rd+1) with
     |true =>
      refine good_congr (good_pure (F:=F) (G:=G) ((4,out,rd+1):ET)) fun s=>?_
      unfold expU;dsimp only;rw [hd];rfl
     |false =>
      refine good_congr (good_inc (fun p' out n'=>good_exp n (ch++[p]) p' out n') (linesS b) out (rd+1)) fun s=>?_
      unfold expU;dsimp only;rw [hd];rfl
   refine good_congr hbind fun s=>?_
   unfold recT expU
   show etOf (cond (ch.any (strEq p)||decide (30<ch.length)) _ (openS (expS n (ch++[p])) ⟨s,out,rd⟩ (readS s p)))=_
   rw [hb,cond_false]
   generalize readS s p=r
   obtain ⟨o,w⟩:=r
   cases o with
   |none=>rfl
   |some b =>
    unfold openS
    dsimp only
    cases decide (10000<rd+1)<;>rfl
def Cm.isList:Cm→Bool
 | .list _ _=>true
 |_=>false
def optU (c:Int) (o:Option ByteArray) (s:Wk):(Int×ByteArray)×Wk:=match o with
 |some b=>((0,b),s)
 |none=>((c,bs []),s)
def pairT (T:Wk→Int×ByteArray×Wk) (s:Wk):(Int×ByteArray)×Wk:=(((T s).1,(T s).2.1),(T s).2.2)
theorem good_opt {T:Wk→Option ByteArray×Wk} (h:Good F G T) (c:Int):Good F G (pairT fun s=>optT c (T s)):=by
 refine good_congr (good_bind (F:=F) (G:=G) (U:=optU c) h fun o=>?_) fun s=>?_
 ·cases o with
  |none=>exact good_pure (F:=F) (G:=G) ((c,bs []):Int×ByteArray)
  |some b=>exact good_pure (F:=F) (G:=G) ((0,b):Int×ByteArray)
 ·unfold pairT
  dsimp only
  generalize T s=r
  obtain ⟨o,w⟩:=r
  cases o<;>rfl
def mapU (f:ByteArray→ByteArray) (o:Option ByteArray) (s:Wk):(Int×ByteArray)×Wk:=match o with
 |some b=>((0,f b),s)
 |none=>((2,bs []),s)
theorem good_mapT {T:Wk→Option ByteArray×Wk} (h:Good F G T) (f:ByteArray→ByteArray):Good F G (pairT fun s=>mapT f (T s)):=by
 refine good_congr (good_bind (F:=F) (G:=G) (U:=mapU f) h fun o=>?_) fun s=>?_
 ·cases o with
  |none=>exact good_pure (F:=F) (G:=G) ((2,bs []):Int×ByteArray)
  |some b=>exact good_pure (F:=F) (G:=G) ((0,f b):Int×ByteArray)
 ·unfold pairT
  dsimp only
  generalize T s=r
  obtain ⟨o,w⟩:=r
  cases o<;>rfl
def exU (o:ET) (s:Wk):(Int×ByteArray)×Wk:=((o.1,o.2.1),s)
theorem good_made (k:Nat) (a:Act) (m:Cm) (hm:m.isList=false):Good F G (pairT (madeS k a m)):=by
 cases m with
 |join p q l=>exact good_opt (good_joined (q::l) (bs [])) 2
 |expand p q=>exact good_bind (F:=F) (G:=G) (U:=exU) (good_exp k [] q (bs []) 0) fun o=>good_pure (F:=F) (G:=G) ((o.1,o.2.1):Int×ByteArray)
 |pick p q r l=>exact good_opt (good_pick (q::r::l)) 2
 |list p q=>cases hm
 |var p w=>exact good_opt (T:=fun s=>(valueS a w,s)) (good_pure (F:=F) (G:=G) (valueS a w)) 4
 |sort p q=>exact good_mapT (good_read q) sortLS
 |count p q=>exact good_mapT (good_read q) countS
 |first p n q=>exact good_mapT (good_read q) (firstS n)
 |change p m r q=>exact good_mapT (good_read q) (fun b=>repS b m r)
 |digest p q=>exact good_mapT (good_read q) (fun b=>digestS b++bs [10])
 |make p q=>exact good_mapT (good_read q) (fun b=>b)
 |tell w l=>exact good_pure (F:=F) (G:=G) ((0,bs []):Int×ByteArray)
 |need p=>exact good_pure (F:=F) (G:=G) ((0,bs []):Int×ByteArray)
 |same p q=>exact good_pure (F:=F) (G:=G) ((0,bs []):Int×ByteArray)
 |fail n=>exact good_pure (F:=F) (G:=G) ((0,bs []):Int×ByteArray)
def wrU (a:Act) (p:ByteArray) (run:Bool) (o:Int×ByteArray) (s:Wk):Int×Wk:=cond (o.1==0) (writeS a s p o.2 run) (o.1,s)
theorem good_wr (k:Nat) (a:Act) (m:Cm) (hm:m.isList=false):Good F G (wrS k a m):=by
 refine good_congr (good_bind (F:=F) (G:=G) (U:=wrU a m.out m.run) (good_made k a m hm) fun o=>?_) fun s=>rfl
 cases hc:o.1==0 with
 |true =>
  refine good_congr (good_write a m.out o.2 m.run) fun s=>?_
  unfold wrU;rw [hc];rfl
 |false =>
  refine good_congr (good_pure (F:=F) (G:=G) o.1) fun s=>?_
  unfold wrU;rw [hc];rfl
def needU (o:Option ByteArray) (s:Wk):Int×Wk:=((outT 2 o).2.1,s)
theorem good_do (k:Nat) (a:Act) (m:Cm) (hm:m.isList=false):Good F G (doCm k a m):=by
 cases m with
 |tell w l=>exact good_tell _
 |need p=>exact good_bind (F:=F) (G:=G) (T:=fun s=>readS s p) (U:=needU) (good_read p) fun o=>good_pure (F:=F) (G:=G) (outT 2 o).2.1
 |same p q=>exact good_same p q
 |fail n=>exact good_pure (F:=F) (G:=G) (numV n)
 |join p q l=>exact good_wr k a _ hm
 |expand p q=>exact good_wr k a _ hm
 |pick p q r l=>exact good_wr k a _ hm
 |list p q=>cases hm
 |var p w=>exact good_wr k a _ hm
 |sort p q=>exact good_wr k a _ hm
 |count p q=>exact good_wr k a _ hm
 |first p n q=>exact good_wr k a _ hm
 |change p m r q=>exact good_wr k a _ hm
 |digest p q=>exact good_wr k a _ hm
 |make p q=>exact good_wr k a _ hm
def runT (k:Nat) (a:Act) (ms:List Cm) (i:Nat) (s:Wk):(Int×Int)×Wk:=(((runL k a ms i s).1,(runL k a ms i s).2.1),(runL k a ms i s).2.2)
def runU (k:Nat) (a:Act) (ms:List Cm) (i:Nat) (c:Int) (s:Wk):(Int×Int)×Wk:=cond (c==0) (runT k a ms (i+1) s) ((c,((i+1:Nat):Int)),s)
theorem good_run (k:Nat) (a:Act):∀(ms:List Cm) (i:Nat),ms.any Cm.isList=false→Good F G (runT k a ms i)
 |[],i,_=>fun s hs=>⟨Ext2.refl s,fun _=>rfl⟩
 |m::ms,i,hm=>by
  rw [List.any_cons,Bool.or_eq_false_iff] at hm
  refine good_congr (good_bind (F:=F) (G:=G) (U:=runU k a ms i) (good_do k a m hm.1) fun c=>?_) fun s=>?_
  ·cases hc:c==0 with
   |true =>
    refine good_congr (good_run k a ms (i+1) hm.2) fun s=>?_
    unfold runU;rw [hc];rfl
   |false =>
    refine good_congr (good_pure (F:=F) (G:=G) ((c,((i+1:Nat):Int)):Int×Int)) fun s=>?_
    unfold runU;rw [hc];rfl
  ·unfold runT runU
   have e:runL k a (m::ms) i s=cond ((doCm k a m s).1==0) (runL k a ms (i+1) (doCm k a m s).2) ((doCm k a m s).1,((i+1:Nat):Int),(doCm k a m s).2):=rfl
   rw [e]
   cases (doCm k a m s).1==0<;>rfl
theorem decide_run (k:Nat) (a:Act) {ms:List Cm} (hm:ms.any Cm.isList=false) (h:AgrF F G (run0 k a ms F).2.2.lk):execS k a ms G=execS k a ms F:=by
 obtain ⟨_,h1⟩:=good_run (F:=F) (G:=G) k a ms 0 hm ⟨F,[],[],bs [],0⟩ rfl
 have h2:=h1 h
 unfold runT at h2
 have e:setI G ⟨F,[],[],bs [],0⟩=⟨G,[],[],bs [],0⟩:=rfl
 rw [e] at h2
 unfold execS
 unfold run0
 have e1:=congrArg (fun z=>z.1.1) h2
 have e2:=congrArg (fun z=>z.1.2) h2
 have e3:=congrArg (fun z=>z.2) h2
 dsimp only at e1 e2 e3
 rw [e1,e2,e3]
 rfl
end
end Go.Lm
set_option maxRecDepth 100000
namespace Go.Lm
section
variable {R:Type}
theorem indexF_loop (k:Nat) (files:List File) (hl:files.length≤1000) (p:ByteArray):∀(fs pre:List File) (n:Nat),files=pre++fs→fs.length<n →
  ∃m:Int,(∀{R:Type} (K:Int×Unit→List LV→Option R) (S:List LV),rounds (G.Qcx.b0 k (fun _ S=>K (-1,()) S) K) n (files.map File.lv,(p,()),(files.length:Int),(pre.length:Int),()) S=K (m,()) S) ∧
   ((m = -1∧getF (fs.map toWF) p=none)∨∃i:Nat,m=(i:Int)∧i<files.length∧getF (fs.map toWF) p=some (toWF (files.getD i .zero)))
 |fs,pre,0,e,hn=>absurd hn (Nat.not_lt_zero _)
 |[],pre,n+1,e,hn=>by
  have hlen:files.length=pre.length:=by rw [e];simp
  refine ⟨-1,fun {R} K S=>?_,.inl ⟨rfl,rfl⟩⟩
  rw [rounds_succ]
  unfold G.Qcx.b0
  dsimp only
  rw [hlen,lt_nat,ifB_neg (Nat.lt_irrefl _)]
 |f::fs,pre,n+1,e,hn=>by
  have hlen:files.length=pre.length+(fs.length+1):=by rw [e];simp
  have hget:(files.map File.lv).getD pre.length .any=f.lv:=by rw [e];simp [List.getD_eq_getElem?_getD]
  have hget2:files.getD pre.length .zero=f:=by rw [e];simp [List.getD_eq_getElem?_getD]
  have step:∀{R:Type} (K:Int×Unit→List LV→Option R) (S:List LV),rounds (G.Qcx.b0 k (fun _ S=>K (-1,()) S) K) (n+1) (files.map File.lv,(p,()),(files.length:Int),(pre.length:Int),()) S =
    ifB (strEq f.p p) (K ((pre.length:Int),()) S) (rounds (G.Qcx.b0 k (fun _ S=>K (-1,()) S) K) n (files.map File.lv,(p,()),(files.length:Int),((pre.length+1:Nat):Int),()) S):=fun {R} K S=>by
   rw [rounds_succ]
   unfold G.Qcx.b0
   dsimp only
   rw [lt_nat,ifB_pos (by omega),idxL_nat (by rw [List.length_map];omega),hget,File.mat]
   show asSl 1 f.leaf _=_
   rw [f.sl,wrap_succ (by omega)]
   rfl
  have eg:getF ((f::fs).map toWF) p=(match decide (f.p=p) with|true=>some (toWF f)|false=>getF (fs.map toWF) p):=by
   unfold getF
   rw [List.map_cons,List.find?_cons]
   rfl
  cases hp:strEq f.p p with
  |true =>
   rw [strEq_dec] at hp
   refine ⟨(pre.length:Int),fun {R} K S=>by rw [step,strEq_dec,hp,ifB_true],.inr ⟨pre.length,rfl,by omega,?_⟩⟩
   rw [eg,hp,hget2]
  |false =>
   obtain ⟨m,h1,h2⟩:=indexF_loop k files hl p fs (pre++[f]) n (by rw [e];simp) (by simp at hn;omega)
   rw [show (pre++[f]).length=pre.length+1 by simp] at h1
   refine ⟨m,fun {R} K S=>by rw [step,hp,ifB_false];exact h1 K S,?_⟩
   rw [strEq_dec] at hp
   rw [eg,hp]
   exact h2
theorem indexF_at {k:Nat} (hk:Many k) (files:List File) (hl:files.length≤1000) (p:ByteArray) :
  ∃m:Int,(∀{R:Type} (K:Int×Unit→List LV→Option R) (S:List LV),G.Qcx.fn k (files.map File.lv,(p,()),()) S K=K (m,()) S) ∧
   ((m = -1∧getF (files.map toWF) p=none)∨∃i:Nat,m=(i:Int)∧i<files.length∧getF (files.map toWF) p=some (toWF (files.getD i .zero))):=by
 obtain ⟨m,h1,h2⟩:=indexF_loop k files hl p files [] k rfl (by unfold Many at hk;omega)
 refine ⟨m,fun {R} K S=>?_,h2⟩
 unfold G.Qcx.fn
 dsimp only
 rw [List.length_map]
 exact h1 K S
theorem sameFile_at (k:Nat) (x:WF) (S:List LV) (K:Bool×Unit→List LV→Option R):G.Qdg.fn k ((x.p,x.r,bytesL x.b,()),(x.p,x.r,bytesL x.b,()),()) S K=K (true,()) S:=by
 unfold G.Qdg.fn
 dsimp only
 rw [(strEq_iff _ _).2 rfl,ifB_true,beq_self_eq_true,ifB_true,equal_at,(strEq_iff _ _).2 rfl]
theorem sameFiles_at {k:Nat} (hk:Many k) (l:List WF) (hl:l.length≤100000) (S:List LV) (K:Bool×Unit→List LV→Option R):G.Qdh.fn k (l.map WF.lv,l.map WF.lv,()) S K=K (true,()) S:=by
 unfold Many at hk
 unfold G.Qdh.fn
 dsimp only
 rw [bne,beq_self_eq_true,Bool.not_true,ifB_false]
 refine (rounds_scan0 (fun i=>(l.map WF.lv,l.map WF.lv,(i:Int),())) S l.length k (fun _=>none) (K (true,()) S) (fun rec i hi=>?_) (fun rec=>?_) (by omega)).trans (scan_none _ _ (fun _ _ _=>rfl))
 ·have hg:(l.map WF.lv).getD i .any=(l[i]).lv:=by simp [List.getD_eq_getElem?_getD,hi]
  have hm:∀(x:WF) (K:ByteArray→Bool→List LV→Option R),(mat 3 x.lv fun c2=>asStr (c2.getD 0 .any) fun s3=>asBool (c2.getD 1 .any) fun b4=>asSl 1 (c2.getD 2 .any) fun l5=>K s3 b4 l5)=K x.p x.r (bytesL x.b):=fun _ _=>rfl
  unfold G.Qdh.b0
  dsimp only
  rw [List.length_map,lt_nat,ifB_pos hi,idxL_nat (by rw [List.length_map];exact hi),hg]
  refine (hm _ _).trans ?_
  rw [idxL_nat (by rw [List.length_map];exact hi),hg]
  refine (hm _ _).trans ?_
  rw [sameFile_at,wrap_succ (by omega)]
  rfl
 ·unfold G.Qdh.b0
  dsimp only
  rw [List.length_map,lt_nat,ifB_neg (Nat.lt_irrefl _)]
theorem sameLooks_at {k:Nat} (hk:Many k) (l:List LkE) (hl:l.length≤100000) (S:List LV) (K:Bool×Unit→List LV→Option R):G.Qdi.fn k (l.map LkE.lv,l.map LkE.lv,()) S K=K (true,()) S:=by
 unfold Many at hk
 unfold G.Qdi.fn
 dsimp only
 rw [bne,beq_self_eq_true,Bool.not_true,ifB_false]
 refine (rounds_scan0 (fun i=>(l.map LkE.lv,l.map LkE.lv,(i:Int),())) S l.length k (fun _=>none) (K (true,()) S) (fun rec i hi=>?_) (fun rec=>?_) (by omega)).trans (scan_none _ _ (fun _ _ _=>rfl))
 ·have hg:(l.map LkE.lv).getD i .any=(l[i]).lv:=by simp [List.getD_eq_getElem?_getD,hi]
  have hm:∀(x:LkE) (K:ByteArray→ByteArray→Bool→Option R),(mat 3 x.lv fun c2=>asStr (c2.getD 0 .any) fun s3=>asStr (c2.getD 1 .any) fun s4=>asBool (c2.getD 2 .any) fun b5=>K s3 s4 b5)=K x.p x.d x.r:=fun _ _=>rfl
  unfold G.Qdi.b0
  dsimp only
  rw [List.length_map,lt_nat,ifB_pos hi,idxL_nat (by rw [List.length_map];exact hi),hg]
  refine (hm _ _).trans ?_
  rw [idxL_nat (by rw [List.length_map];exact hi),hg]
  refine (hm _ _).trans ?_
  rw [(strEq_iff _ _).2 rfl,(strEq_iff _ _).2 rfl,beq_self_eq_true,wrap_succ (by omega)]
  rfl
 ·unfold G.Qdi.b0
  dsimp only
  rw [List.length_map,lt_nat,ifB_neg (Nat.lt_irrefl _)]
theorem sameResult_at {k:Nat} (hk:Many k) (r:RS) (h1:r.files.length≤100000) (h2:r.looks.length≤100000) (S:List LV) (K:Bool×Unit→List LV→Option R):G.Qdj.fn k (r.tup,r.tup,()) S K=K (true,()) S:=by
 unfold G.Qdj.fn
 dsimp only
 show ifB (r.code==r.code) (ifB (strEq r.text r.text) (G.Qdh.fn k (r.files.map WF.lv,r.files.map WF.lv,()) S fun r1 S=>ifB r1.1 (G.Qdi.fn k (r.looks.map LkE.lv,r.looks.map LkE.lv,()) S fun r2 S=>ifB r2.1 (K ((r.cmd==r.cmd),()) S) (K (false,()) S)) (K (false,()) S)) (K (false,()) S)) (K (false,()) S)=_
 rw [beq_self_eq_true,ifB_true,(strEq_iff _ _).2 rfl,ifB_true,sameFiles_at hk _ h1]
 dsimp only
 rw [ifB_true,sameLooks_at hk _ h2]
 dsimp only
 rw [ifB_true,beq_self_eq_true]
theorem list_word (m:Cm):strEq (m.words.getD 0 (bs [])) (bs [108,105,115,116])=m.isList:=by
 cases m<;>simp only [Cm.words,List.getD_cons_zero,Cm.isList]<;>decide +kernel
theorem words_posL (m:Cm):0<m.words.length:=by
 cases m<;>simp [Cm.words]
theorem lists_at {k:Nat} (hk:Many k) {a:Act} {ms:List Cm} (h1:a.cmds=ms.map Cm.words) (hl:a.cmds.length≤50) (S:List LV) (K:Bool×Unit→List LV→Option R) :
  G.Qdf.fn k (a.tup,()) S K=K (ms.any Cm.isList,()) S:=by
 have key:∀(cs pre:List Cm) (n:Nat),ms=pre++cs→cs.length<n→rounds (G.Qdf.b0 k (fun _ S=>K (false,()) S) K) n (a.tup,(pre.length:Int),()) S=K (cs.any Cm.isList,()) S:=fun cs=>by
  induction cs with
  |nil =>
   intro pre n e hn
   cases n with
   |zero=>omega
   |succ n =>
    have e2:(a.cmds.map cmdL).length=pre.length:=by rw [List.length_map,h1,e];simp
    rw [rounds_succ]
    unfold G.Qdf.b0
    dsimp only
    show ifB (decide ((pre.length:Int)<((a.cmds.map cmdL).length:Int))) _ _=_
    rw [e2,lt_nat,ifB_neg (Nat.lt_irrefl _)]
    rfl
  |cons m cs ih =>
   intro pre n e hn
   cases n with
   |zero=>omega
   |succ n =>
    have e2:a.cmds.length=pre.length+(cs.length+1):=by rw [h1,e];simp
    have hget:a.cmds.getD pre.length []=m.words:=by rw [h1,e];exact get_mid pre cs m
    have hw:=words_posL m
    rw [rounds_succ]
    unfold G.Qdf.b0
    dsimp only
    have ih2:=ih (pre++[m]) n (by rw [e];simp) (by simp at hn;omega)
    rw [show (pre++[m]).length=pre.length+1 by simp] at ih2
    unfold G.Qdf.b0 at ih2
    show ifB (decide ((pre.length:Int)<((a.cmds.map cmdL).length:Int))) (idxL (a.cmds.map cmdL) (pre.length:Int) _) _=_
    rw [List.length_map,lt_nat,ifB_pos (by omega),idxL_nat (by rw [List.length_map];omega),cmd_get _ _ (by omega),cmdL_at,hget,List.length_map,ifB_pos (by omega)]
    show idxL (a.cmds.map cmdL) (pre.length:Int) _=_
    rw [idxL_nat (by rw [List.length_map];omega),cmd_get _ _ (by omega),cmdL_at,hget]
    rw [show (0:Int)=((0:Nat):Int) from rfl,idxL_nat (by rw [List.length_map];omega),map_str_get _ 0 hw,asLeaf_str,list_word,List.any_cons]
    cases m.isList with
    |true=>rfl
    |false =>
     rw [ifB_false,Bool.false_or]
     unfold G.Qdf.q0
     dsimp only
     rw [wrap_succ (by omega)]
     exact ih2
 unfold Many at hk
 unfold G.Qdf.fn
 dsimp only
 have hml:ms.length≤50:=by rw [h1,List.length_map] at hl;exact hl
 exact key ms [] k rfl (by omega)
theorem ran_agr (k:Nat) {a:Act} {files:List File} {ms:List Cm} {G:List WF} (h:∀x∈(execS k a ms (files.map toWF)).looks,getF (files.map toWF) x.p=getF G x.p):AgrF (files.map toWF) G (run0 k a ms (files.map toWF)).2.2.lk:=fun x hx=>by
 have hm:x.p∈sortP ((run0 k a ms (files.map toWF)).2.2.lk.map LkE.p):=(sortP_perm _).mem_iff.2 (List.mem_map_of_mem hx)
 have h1:=lkAt_mem (List.mem_map_of_mem (f:=LkE.p) hx)
 have h2:=h (lkAt (run0 k a ms (files.map toWF)).2.2.lk x.p) (List.mem_map_of_mem hm)
 rw [h1.2] at h2
 exact h2
theorem ran_files (k:Nat) {a:Act} {files:List File} (hb:bothS a files=0) {ms:List Cm} (h1:a.cmds=ms.map Cm.words) (h2:∀m∈ms,m.Ok):(execS k a ms (files.map toWF)).files.length≤100:=by
 obtain ⟨q,hq⟩:=(ran_inv k hb h1 h2).one.2
 have h3:=hq.wrl
 have h4:=(act_facts (bothS_ok hb).1).outs.len
 show (cond ((run0 k a ms (files.map toWF)).1==0) ((sortP ((run0 k a ms (files.map toWF)).2.2.wr.map WF.p)).map (wfAt (run0 k a ms (files.map toWF)).2.2.wr)) []).length≤100
 cases (run0 k a ms (files.map toWF)).1==0 with
 |false=>exact Nat.zero_le _
 |true=>rw [cond_true,List.length_map,(sortP_perm _).length_eq,List.length_map];omega
end
end Go.Lm
set_option maxRecDepth 100000
namespace Go.Lm
section
variable {R:Type}
def cOwn (f:File):List LV:=[.str f.p,.bool f.r,.own 5 1 (bytesL f.b)]
def cRaw (f:File):List LV:=[.str f.p,.bool f.r,f.leaf]
def cellsO (done rest:List File):List LV:=done.flatMap cOwn++rest.flatMap cRaw
theorem flat_own_len:∀l:List File,(l.flatMap cOwn).length=l.length*3
 |[]=>rfl
 |f::l=>by rw [List.flatMap_cons,List.length_append,flat_own_len l];show 3+l.length*3=(l.length+1)*3;omega
theorem flat_raw:∀l:List File,flatC 3 (l.map File.lv)=l.flatMap cRaw
 |[]=>rfl
 |f::l=>by
  have e:flatC 3 ((f::l).map File.lv)=[leaf f.lv 0,leaf f.lv 1,leaf f.lv 2]++flatC 3 (l.map File.lv):=rfl
  rw [e,flat_raw l];rfl
theorem chunksOwn:∀l:List File,chunks 3 l.length (l.flatMap cOwn)=(l.map toWF).map WF.lv
 |[]=>rfl
 |f::l=>by
  have ih:=chunksOwn l
  unfold chunks at ih ⊢
  rw [show Nat.beq 3 1=false from rfl] at ih ⊢
  dsimp only at ih ⊢
  rw [List.length_cons,List.range_succ_eq_map,List.map_cons,List.map_map,List.map_cons,List.map_cons]
  congr 1
  refine Eq.trans (List.map_congr_left fun i _=>?_) ih
  show LV.agg (((((f::l).flatMap cOwn).drop ((i+1)*3)).take 3).map dupL)=_
  rw [show (i+1)*3=i*3+1+1+1 by omega]
  rfl
theorem leaf_sl (f:File) (K:List LV→Option R):asSl 1 (dupL f.leaf) K=K (bytesL f.b):=by
 have:dupL f.leaf=f.leaf:=by unfold File.leaf;cases f.nil<;>rfl
 rw [this];exact f.sl K
theorem own_step (k:Nat) (files:List File) (hl:files.length≤1000) (hb:∀f∈files,f.b.size≤100000) (id:Nat) (J0:LV×Unit→List LV→Option R):∀(rest done:List File) (n:Nat) (S:List LV),files=done++rest→rest.length<n→S.getD id .any = .vec 50 (cellsO done rest) →
  rounds (G.Qbr.b0 k J0) n (.osl id 0 3 files.length,(files.length:Int),(done.length:Int),()) S=J0 (.osl id 0 3 files.length,()) (S.set id (.vec 50 (cellsO files [])))
 |rest,done,0,S,e,hn,h=>absurd hn (Nat.not_lt_zero _)
 |[],done,n+1,S,e,hn,h=>by
  rw [List.append_nil] at e
  subst e
  rw [rounds_succ]
  unfold G.Qbr.b0
  dsimp only
  rw [lt_nat,ifB_neg (Nat.lt_irrefl _)]
  congr 1
  apply listExt (by simp)
  intro j
  by_cases hji:j=id
  ·subst hji
   rw [getD_set_self _ _ _ (getD_lt h (by simp)),h]
  ·rw [getD_set_other _ _ hji]
 |f::rest,done,n+1,S,e,hn,h=>by
  have hlen:files.length=done.length+(rest.length+1):=by rw [e];simp
  have hid:=getD_lt h (by simp)
  have hfb:=hb f (by rw [e];simp)
  have e0:cellsO done (f::rest)=(done.flatMap cOwn++[.str f.p,.bool f.r])++f.leaf::rest.flatMap cRaw:=by
   unfold cellsO
   rw [List.flatMap_cons]
   show _++([.str f.p,.bool f.r,f.leaf]++_)=_
   simp
  have hpl:(done.flatMap cOwn++[LV.str f.p,.bool f.r]).length=0+done.length*3+2:=by rw [List.length_append,flat_own_len];simp
  have e1:cellsO (done++[f]) rest=(done.flatMap cOwn++[.str f.p,.bool f.r])++.own 5 1 (bytesL f.b)::rest.flatMap cRaw:=by
   unfold cellsO
   rw [List.flatMap_append]
   show (done.flatMap cOwn++([.str f.p,.bool f.r,.own 5 1 (bytesL f.b)]++[]))++_=_
   simp
  have hld:∀K:List LV→Option R,ldSl 1 (cellsO done (f::rest)) (0+done.length*3+2) K=K (bytesL f.b):=fun K=>by
   unfold ldSl
   have hlt:Nat.blt (0+done.length*3+2) (cellsO done (f::rest)).length=true:=Nat.ble_eq_true_of_le (by rw [e0,List.length_append,hpl];simp)
   have hg:(cellsO done (f::rest)).getD (0+done.length*3+2) .any=f.leaf:=by
    rw [e0,←hpl]
    simp [List.getD_eq_getElem?_getD]
   rw [hlt,ifB_true,hg,leaf_sl]
  have hst:∀K:List LV→Option R,stO (cellsO done (f::rest)) (0+done.length*3+2) [.own 5 1 (bytesL f.b)] K=K (cellsO (done++[f]) rest):=fun K=>by
   unfold stO
   have hle:Nat.ble (0+done.length*3+2+[LV.own 5 1 (bytesL f.b)].length) (cellsO done (f::rest)).length=true:=Nat.ble_eq_true_of_le (by rw [e0,List.length_append,hpl];simp)
   rw [hle,ifB_true,e0,e1,←hpl,setFrom_fill _ _ _ (by simp)]
   congr 1
   simp
  have h2:(S.set id (.vec 50 (cellsO (done++[f]) rest))).getD id .any = .vec 50 (cellsO (done++[f]) rest):=getD_set_self _ _ _ hid
  have ih:=own_step k files hl hb id J0 rest (done++[f]) n _ (by rw [e];simp) (by simp at hn;omega) h2
  rw [show (done++[f]).length=done.length+1 by simp,List.set_set] at ih
  have hobj:∀(K:(List LV→LV)→List LV→Option R),objAt S id K=K (.vec 50) (cellsO done (f::rest)):=fun K=>by unfold objAt;rw [h]
  rw [rounds_succ]
  unfold G.Qbr.b0 at ih ⊢
  dsimp only at ih ⊢
  rw [lt_nat,ifB_pos (by omega)]
  simp only [dup,oslOr_at]
  rw [show Nat.beq 3 3=true from rfl,ifB_true,idxN_nat (by omega),hobj,hld,clone_bytes k f.b hfb]
  dsimp only
  rw [ifB_true,idxN_nat (by omega),hobj,hst,setS_of,wrap_succ (by omega)]
  simp only [dup,oslOr_at] at ih
  exact ih
theorem own_row {k:Nat} (hk:Many k) (files:List File) (hl:files.length≤1000) (hb:∀f∈files,f.b.size≤100000) (S:List LV):∃X,∀{R:Type} (K:List LV×Unit→List LV→Option R),G.Qbr.fn0 k (.nsl 3 (files.map File.lv),()) S K=K ((files.map toWF).map WF.lv,()) (S++X):=by
 have hk2:=hk
 unfold Many at hk2
 refine ⟨[.any,.any],fun {R} K=>?_⟩
 unfold G.Qbr.fn0 G.Qcn.fn
 dsimp only
 simp only [dup,isNil,asSl,newObj,Nat.beq_refl,ifB_true,show (false==true)=false from rfl,ifB_false]
 have hap:∀K:Nat→Nat→List LV→Option R,appO 50 3 48 (S++[.obj 50 []]) (.osl S.length 0 3 0) (files.map File.lv) K=K (S.length+1) files.length (S++[.any]++[LV.vec 50 (cellsO [] files)]):=fun K=>by
  unfold appO cellsAt
  dsimp only
  rw [get_last]
  dsimp only
  have h3:fitsB 0 (files.map File.lv).length 48=true:=decide_eq_true ⟨by rw [List.length_map];omega,by rw [List.length_map];omega⟩
  rw [h3]
  rw [show (Nat.beq 50 50&&Nat.beq 0 0&&Nat.beq 3 3&&Nat.blt 0 3&&Nat.ble (0*3) ([]:List LV).length&&true)=true from rfl,ifB_true,set_last,List.length_append,List.length_map,Nat.zero_add]
  congr 1
  unfold cellsO
  rw [flat_raw]
  rfl
 rw [hap]
 simp only [lenO,dup]
 have hv:(S++[LV.any]++[LV.vec 50 (cellsO [] files)]).getD (S.length+1) .any = .vec 50 (cellsO [] files):=by
  have:S.length+1=(S++[LV.any]).length:=by simp
  rw [this];exact get_last _ _
 refine (own_step k files hl hb (S.length+1) _ files [] k _ rfl (by omega) hv).trans ?_
 have hset:(S++[LV.any]++[LV.vec 50 (cellsO [] files)]).set (S.length+1) (.vec 50 (cellsO files []))=S++[LV.any]++[LV.vec 50 (cellsO files [])]:=by
  have:S.length+1=(S++[LV.any]).length:=by simp
  rw [this];exact set_last _ _ _
 rw [hset]
 have hv2:(S++[LV.any]++[LV.vec 50 (cellsO files [])]).getD (S.length+1) .any = .vec 50 (cellsO files []):=by
  have:S.length+1=(S++[LV.any]).length:=by simp
  rw [this];exact get_last _ _
 have hce:cellsO files []=files.flatMap cOwn:=by unfold cellsO;simp
 unfold frzO objAt
 dsimp only
 rw [hv2]
 dsimp only
 have hc:(Nat.beq 3 3&&(Nat.beq 0 0&&Nat.beq (files.length*3) (cellsO files []).length&&Nat.blt 0 3&&Nat.ble files.length 9223372036854775807))=true:=by
  rw [hce,flat_own_len,show Nat.beq (files.length*3) (files.length*3)=true from Nat.beq_refl _,show Nat.ble files.length 9223372036854775807=true from Nat.ble_eq_true_of_le (by omega)];rfl
 rw [hc,ifB_true,hce,chunksOwn]
 have hset2:(S++[LV.any]++[LV.vec 50 (files.flatMap cOwn)]).set (S.length+1) .any=S++[LV.any,.any]:=by
  have:S.length+1=(S++[LV.any]).length:=by simp
  rw [this,set_last];simp
 rw [hset2]
theorem own_nilR {k:Nat} (hk:Many k) (S:List LV):G.Qbr.fn k (.nilsl,()) S (fun r S=>some (resE G.Qbr.rs r,S))=some (resE G.Qbr.rs ([],()),S):=by
 unfold Many at hk
 obtain ⟨m,rfl⟩:∃m,k=m+1:=⟨k-1,by omega⟩
 unfold G.Qbr.fn
 exact popK_at (rs:=G.Qbr.rs) (r:=([],())) (G:=[]) (by rw [List.append_nil];rfl) rfl
theorem own_at {k:Nat} (hk:Many k) (files:List File) (hl:files.length≤1000) (hb:∀f∈files,f.b.size≤100000) (S:List LV) (K:List LV×Unit→List LV→Option R):G.Qbs.fn k (files.map File.lv,()) S K=K ((files.map toWF).map WF.lv,()) S:=by
 obtain ⟨X,h⟩:=own_row hk files hl hb S
 have h1:G.Qbr.fn k (.nsl 3 (files.map File.lv),()) S (fun r S=>some (resE G.Qbr.rs r,S))=some (resE G.Qbr.rs ((files.map toWF).map WF.lv,()),S):=by
  unfold G.Qbr.fn
  refine popK_at (rs:=G.Qbr.rs) (r:=((files.map toWF).map WF.lv,())) (h _) ?_
  show ((files.map toWF).map WF.lv).all (noId 5)=true
  exact noId_wf 3 _
 unfold G.Qbs.fn
 refine nilK_at h1 fun e=>?_
 have:files=[]:=by cases files with|nil=>rfl|cons=>cases e
 subst this
 exact own_nilR hk S
theorem getK:∀(ps:List ByteArray) (m:List (LV×LV)) (ks:List ByteArray),KeysB m ks→∀q:ByteArray,mapGet (putK (ps.map .str) m) (.str q)=cond (ps.any fun p=>decide (p=q)) (some (.bool true)) (mapGet m (.str q))
 |[],m,ks,h,q=>rfl
 |a::ps,m,ks,h,q=>by
  obtain ⟨ks',h1,_,_⟩:=h.put a (.bool true)
  have hm:∀e,e∈m→∃s,e.1 = .str s:=fun e he=>by
   have:e.1∈ks.map LV.str:=by rw [←show m.map Prod.fst=ks.map LV.str from h];exact List.mem_map_of_mem he
   obtain ⟨s,_,hs⟩:=List.mem_map.1 this
   exact ⟨s,hs.symm⟩
  have e1:putK ((a::ps).map .str) m=putK (ps.map .str) (mapPut m (.str a) (.bool true)):=rfl
  rw [e1,getK ps _ ks' h1 q,mapGet_put m a q _ hm,List.any_cons]
  cases decide (a=q) with
  |true=>rw [Bool.true_or];cases ps.any fun p=>decide (p=q)<;>rfl
  |false=>rw [Bool.false_or]
def lookd (looks:List LkE) (p:ByteArray):Bool:=(looks.map LkE.p).any fun x=>decide (x=p)
def readF (looks:List LkE) (files:List File):List WF:=(files.map toWF).filter fun f=>lookd looks f.p
def unreadF (looks:List LkE) (files:List File):List WF:=(files.map toWF).filter fun f=>!(lookd looks f.p)
theorem mark_loop (k:Nat) (looks:List LkE) (hl:looks.length≤4000) (id:Nat) (u v w:List LV) (J0:List LV×List LV×List LV×Nat×Unit→List LV→Option R):∀(xs pre:List LkE) (n:Nat) (S:List LV),looks=pre++xs→xs.length<n→S.getD id .any = .mp .str (putK ((pre.map LkE.p).map .str) []) →
  rounds (G.Qba.b0 k J0) n (u,v,w,id,looks.map LkE.lv,(looks.length:Int),(pre.length:Int),()) S=J0 (u,v,w,id,()) (S.set id (.mp .str (putK ((looks.map LkE.p).map .str) [])))
 |xs,pre,0,S,e,hn,h=>absurd hn (Nat.not_lt_zero _)
 |[],pre,n+1,S,e,hn,h=>by
  rw [List.append_nil] at e
  subst e
  rw [rounds_succ]
  unfold G.Qba.b0
  dsimp only
  rw [lt_nat,ifB_neg (Nat.lt_irrefl _)]
  congr 1
  apply listExt (by simp)
  intro j
  by_cases hji:j=id
  ·subst hji
   rw [getD_set_self _ _ _ (getD_lt h (by simp)),h]
  ·rw [getD_set_other _ _ hji]
 |x::xs,pre,n+1,S,e,hn,h=>by
  have hlen:looks.length=pre.length+(xs.length+1):=by rw [e];simp
  have hget:(looks.map LkE.lv).getD pre.length .any=x.lv:=by rw [e];simp [List.getD_eq_getElem?_getD]
  have hid:=getD_lt h (by simp)
  have hput:mapPut (putK ((pre.map LkE.p).map .str) []) (.str x.p) (.bool true)=putK (((pre++[x]).map LkE.p).map .str) []:=by
   unfold putK
   rw [List.map_append,List.map_append,List.foldl_append];rfl
  have h2:(S.set id (.mp .str (putK (((pre++[x]).map LkE.p).map .str) []))).getD id .any = .mp .str (putK (((pre++[x]).map LkE.p).map .str) []):=getD_set_self _ _ _ hid
  have ih:=mark_loop k looks hl id u v w J0 xs (pre++[x]) n _ (by rw [e];simp) (by simp at hn;omega) h2
  rw [show (pre++[x]).length=pre.length+1 by simp,List.set_set] at ih
  have hm:∀(K:ByteArray→ByteArray→Bool→Option R),(mat 3 x.lv fun c2=>asStr (c2.getD 0 .any) fun s3=>asStr (c2.getD 1 .any) fun s4=>asBool (c2.getD 2 .any) fun b5=>K s3 s4 b5)=K x.p x.d x.r:=fun _=>rfl
  rw [rounds_succ]
  unfold G.Qba.b0 at ih ⊢
  dsimp only at ih ⊢
  rw [lt_nat,ifB_pos (by omega),idxL_nat (by rw [List.length_map];omega),hget]
  refine (hm _).trans ?_
  rw [mp_at h,setS_of,hput,wrap_succ (by omega)]
  exact ih
theorem part_loop (k:Nat) (looks:List LkE) (fs0:List WF) (hl:fs0.length≤1000) (id:Nat) (S:List LV) (h:S.getD id .any = .mp .str (putK ((looks.map LkE.p).map .str) [])) (J2:List LV×List LV×Unit→List LV→Option R):∀(xs pre:List WF) (n:Nat),fs0=pre++xs→xs.length<n →
  rounds (G.Qba.b1 k J2) n ((pre.filter fun f=>lookd looks f.p).map WF.lv,(pre.filter fun f=>!(lookd looks f.p)).map WF.lv,id,fs0.map WF.lv,(fs0.length:Int),(pre.length:Int),()) S=J2 ((fs0.filter fun f=>lookd looks f.p).map WF.lv,(fs0.filter fun f=>!(lookd looks f.p)).map WF.lv,()) S
 |xs,pre,0,e,hn=>absurd hn (Nat.not_lt_zero _)
 |[],pre,n+1,e,hn=>by
  rw [List.append_nil] at e
  subst e
  rw [rounds_succ]
  unfold G.Qba.b1
  dsimp only
  rw [lt_nat,ifB_neg (Nat.lt_irrefl _)]
 |f::xs,pre,n+1,e,hn=>by
  have hlen:fs0.length=pre.length+(xs.length+1):=by rw [e];simp
  have hget:(fs0.map WF.lv).getD pre.length .any=f.lv:=by rw [e];simp [List.getD_eq_getElem?_getD]
  have ih:=part_loop k looks fs0 hl id S h J2 xs (pre++[f]) n (by rw [e];simp) (by simp at hn;omega)
  rw [show (pre++[f]).length=pre.length+1 by simp] at ih
  have hm:∀(K:ByteArray→Bool→List LV→Option R),(mat 3 f.lv fun c2=>asStr (c2.getD 0 .any) fun s3=>asBool (c2.getD 1 .any) fun b4=>asSl 1 (c2.getD 2 .any) fun l5=>K s3 b4 l5)=K f.p f.r (bytesL f.b):=fun _=>rfl
  have hg:(mapGet (putK ((looks.map LkE.p).map .str) []) (.str f.p)).getD (.bool false) = .bool (lookd looks f.p):=by
   rw [getK _ [] [] rfl]
   show (cond (lookd looks f.p) _ _:Option LV).getD _=_
   cases lookd looks f.p<;>rfl
  have hl1:∀q:WF→Bool,((pre.filter q).map WF.lv).length≤1000:=fun q=>by
   rw [List.length_map]
   have:=List.length_filter_le q pre
   omega
  rw [rounds_succ]
  unfold G.Qba.b1 at ih ⊢
  dsimp only at ih ⊢
  rw [lt_nat,ifB_pos (by omega),idxL_nat (by rw [List.length_map];omega),hget]
  refine (hm _).trans ?_
  rw [mp_at h,hg,asBool_bool,wrap_succ (by omega)]
  rw [List.filter_append,List.filter_append,List.filter_cons,List.filter_cons,List.filter_nil,List.filter_nil] at ih
  cases hq:lookd looks f.p with
  |true =>
   rw [hq] at ih
   rw [ifB_true,app_le (by have:=hl1 fun f=>lookd looks f.p;simp only [List.length_singleton];omega) (by have:=hl1 fun f=>lookd looks f.p;simp only [List.length_singleton];omega)]
   simp only [if_true,List.map_append,Bool.not_true,Bool.false_eq_true,if_false,List.append_nil] at ih
   exact ih
  |false =>
   rw [hq] at ih
   rw [ifB_false,app_le (by have:=hl1 fun f=>!(lookd looks f.p);simp only [List.length_singleton];omega) (by have:=hl1 fun f=>!(lookd looks f.p);simp only [List.length_singleton];omega)]
   simp only [if_true,List.map_append,Bool.not_false,Bool.false_eq_true,if_false,List.append_nil] at ih
   exact ih
theorem split0 {k:Nat} (hk:Many k) {a:Act} {files:List File} (hl:files.length≤1000) (hb:∀f∈files,f.b.size≤100000) {r:RS} (hr:r.looks.length≤4000) {S:List LV} (hx:∀{R:Type} (K:RT×Int×Unit→List LV→Option R),G.Qac.fn k (a.tup,files.map File.lv,()) S K=K (r.tup,0,()) S) :
  ∃X,∀{R:Type} (K:List LV×List LV×Int×Unit→List LV→Option R),G.Qba.fn0 k (a.tup,files.map File.lv,()) S K=K ((readF r.looks files).map WF.lv,(unreadF r.looks files).map WF.lv,0,()) (S++X):=by
 have hk2:=hk
 unfold Many at hk2
 refine ⟨[.mp .str (putK ((r.looks.map LkE.p).map .str) [])],fun {R} K=>?_⟩
 unfold G.Qba.fn0
 rw [hx]
 dsimp only
 rw [show ((0:Int) != 0)=false from rfl,ifB_false]
 unfold newObj
 show rounds (G.Qba.b0 k _) k (files.map File.lv,[],[],S.length,r.looks.map LkE.lv,((r.looks.map LkE.lv).length:Int),((([]:List LkE).length:Nat):Int),()) (S++[.mp .str []])=_
 rw [List.length_map]
 refine (mark_loop k r.looks hr S.length (files.map File.lv) [] [] _ r.looks [] k _ rfl (by omega) (get_last _ _)).trans ?_
 rw [set_last]
 dsimp only
 rw [own_at hk files hl hb]
 dsimp only
 show rounds (G.Qba.b1 k _) k ((([]:List WF).filter fun f=>lookd r.looks f.p).map WF.lv,(([]:List WF).filter fun f=>!(lookd r.looks f.p)).map WF.lv,S.length,(files.map toWF).map WF.lv,(((files.map toWF).map WF.lv).length:Int),((([]:List WF).length:Nat):Int),()) _=_
 rw [List.length_map]
 exact part_loop k r.looks (files.map toWF) (by rw [List.length_map];exact hl) S.length _ (get_last _ _) _ (files.map toWF) [] k rfl (by rw [List.length_map];omega)
theorem noId_wfl (l:List WF) (n:Nat):noId (n+3) (.sl 3 (l.map WF.lv))=true:=noId_wf n l
theorem split_at' {k:Nat} (hk:Many k) {a:Act} {files:List File} (hl:files.length≤1000) (hb:∀f∈files,f.b.size≤100000) {r:RS} (hr:r.looks.length≤4000) {S:List LV} (hx:∀{R:Type} (K:RT×Int×Unit→List LV→Option R),G.Qac.fn k (a.tup,files.map File.lv,()) S K=K (r.tup,0,()) S) (K:List LV×List LV×Int×Unit→List LV→Option R) :
  G.Qba.fn k (a.tup,files.map File.lv,()) S K=K ((readF r.looks files).map WF.lv,(unreadF r.looks files).map WF.lv,0,()) S:=by
 obtain ⟨X,h⟩:=split0 hk hl hb hr hx
 refine popK_at (h _) ?_
 show (noId 5 (.sl 3 ((readF r.looks files).map WF.lv))&&(noId 5 (.sl 3 ((unreadF r.looks files).map WF.lv))&&(noId 5 (.int .i64 0)&&true)))=true
 rw [noId_wfl _ 2,noId_wfl _ 2];rfl
theorem split_err {k:Nat} {a:Act} {files:List File} {n:Int} (hn:n≠0) {S:List LV} (hx:∀{R:Type} (K:RT×Int×Unit→List LV→Option R),G.Qac.fn k (a.tup,files.map File.lv,()) S K=K (((0:Int),bs [],[],[],0,()),n,()) S) (K:List LV×List LV×Int×Unit→List LV→Option R) :
  G.Qba.fn k (a.tup,files.map File.lv,()) S K=K ([],[],n,()) S:=by
 have h:∀(K:List LV×List LV×Int×Unit→List LV→Option (LV×List LV)),G.Qba.fn0 k (a.tup,files.map File.lv,()) S K=K ([],[],n,()) (S++[]):=fun K=>by
  unfold G.Qba.fn0
  rw [hx,List.append_nil]
  dsimp only
  have:(n==0)=false:=by rw [beq_eq_false_iff_ne];exact hn
  rw [bne,this];rfl
 exact popK_at (h _) rfl
theorem paths_loopU (k:Nat) (f:Int) (l:List WF) (hl:l.length≤1000) (S:List LV) (J0:Int×List LV×Unit→List LV→Option R):∀(xs pre:List WF) (n:Nat),l=pre++xs→xs.length<n →
  rounds (G.Qag.b0 k J0) n (f,(pre.map WF.p).map .str,l.map WF.lv,(l.length:Int),(pre.length:Int),()) S=J0 (f,(l.map WF.p).map .str,()) S
 |xs,pre,0,e,hn=>absurd hn (Nat.not_lt_zero _)
 |[],pre,n+1,e,hn=>by
  rw [List.append_nil] at e
  subst e
  rw [rounds_succ]
  unfold G.Qag.b0
  dsimp only
  rw [lt_nat,ifB_neg (Nat.lt_irrefl _)]
 |g::xs,pre,n+1,e,hn=>by
  have hlen:l.length=pre.length+(xs.length+1):=by rw [e];simp
  have hget:(l.map WF.lv).getD pre.length .any=g.lv:=by rw [e];simp [List.getD_eq_getElem?_getD]
  have ih:=paths_loopU k f l hl S J0 xs (pre++[g]) n (by rw [e];simp) (by simp at hn;omega)
  rw [show (pre++[g]).length=pre.length+1 by simp] at ih
  have hm:∀(K:ByteArray→Bool→List LV→Option R),(mat 3 g.lv fun c2=>asStr (c2.getD 0 .any) fun s3=>asBool (c2.getD 1 .any) fun b4=>asSl 1 (c2.getD 2 .any) fun l5=>K s3 b4 l5)=K g.p g.r (bytesL g.b):=fun _=>rfl
  rw [rounds_succ]
  unfold G.Qag.b0 at ih ⊢
  dsimp only at ih ⊢
  rw [lt_nat,ifB_pos (by omega),idxL_nat (by rw [List.length_map];omega),hget]
  refine (hm _).trans ?_
  rw [app_le (by simp;omega) (by simp;omega),wrap_succ (by omega)]
  have e2:((pre.map WF.p).map LV.str)++[LV.str g.p]=((pre++[g]).map WF.p).map LV.str:=by rw [List.map_append,List.map_append];rfl
  rw [e2]
  exact ih
end
end Go.Lm
set_option maxRecDepth 100000
namespace Go.Lm
section
variable {R:Type}
def toF (x:WF):File:=⟨x.p,x.r,x.b,false,fun h=>by cases h⟩
theorem toF_lv (l:List WF):(l.map toF).map File.lv=l.map WF.lv:=by rw [List.map_map];rfl
theorem toF_WF (l:List WF):(l.map toF).map toWF=l:=by rw [List.map_map];exact List.map_id _
theorem sum_take (l:List File):∀i,i≤l.length→sumB l i=((l.take i).map fun f=>f.b.size).sum
 |0,_=>by simp [sumB]
 |i+1,hi=>by
  have ih:=sum_take l i (by omega)
  unfold sumB
  rw [ih,List.take_succ_eq_append_getElem (by omega),List.map_append,List.sum_append]
  simp [List.getD_eq_getElem?_getD,List.getElem?_eq_getElem (show i<l.length by omega)]
theorem file_more {l:List File} (h:checkFilesS l=0):(∀x∈l,clashB l x.p=false)∧(l.map fun f=>f.b.size).sum≤2000000:=by
 have hf:=file_facts h
 unfold checkFilesS at h
 rw [decide_eq_false (by have:=hf.len;omega)] at h
 have hs:∀j r,fileS l j=some r→r≠0:=fun j r hr=>by
  unfold fileS at hr
  cases ha:isPathS (l.getD j .zero).p with
  |false=>rw [ha] at hr;cases hr;decide
  |true =>
   rw [ha] at hr
   cases hb:decide ((l.getD j .zero).b.size>100000) with
   |true=>rw [hb] at hr;cases hr;decide
   |false =>
    rw [hb] at hr
    cases hc:decide (0<j)&&(strLt (l.getD j .zero).p (l.getD (j-1) .zero).p||strEq (l.getD j .zero).p (l.getD (j-1) .zero).p) with
    |true=>rw [hc] at hr;cases hr;decide
    |false=>rw [hc] at hr;cases hr
 have h1:=(scan_allZ hs l.length 0 h).2
 have hs2:∀j r,clashS l j=some r→r≠0:=fun j r hr=>by
  unfold clashS at hr
  cases hc:clashB l (l.getD j .zero).p with
  |true=>rw [hc] at hr;cases hr;decide
  |false=>rw [hc] at hr;cases hr
 obtain ⟨h2,h3⟩:=scan_allZ hs2 l.length 0 h1
 refine ⟨fun x hx=>?_,?_⟩
 ·obtain ⟨i,hi,rfl⟩:=List.mem_iff_getElem.1 hx
  have:=h2 i (Nat.zero_le _) (by omega)
  have e:l.getD i .zero=l[i]:=by rw [List.getD_eq_getElem?_getD,List.getElem?_eq_getElem hi];rfl
  unfold clashS at this
  rw [e] at this
  cases hc:clashB l l[i].p with
  |false=>rfl
  |true=>rw [hc] at this;cases this
 ·have e:=sum_take l l.length (Nat.le_refl _)
  rw [List.take_of_length_le (Nat.le_refl _)] at e
  rw [←e]
  by_cases hq:sumB l l.length>2000000
  ·rw [decide_eq_true hq] at h3
   exact absurd (show (2:Int)=0 from h3) (by decide)
  ·omega
theorem clash_sub {l l':List File} (hsub:∀q,memB l' q=true→memB l q=true) {p:ByteArray} (h:clashB l p=false):clashB l' p=false:=by
 unfold clashB at h ⊢
 have ha:=(scan_allZ (x:=false) (fun j r hr e=>by
  subst e
  cases hq:(bt p (j:Int)==47)&&memB l (p.extract 0 j) with
  |true=>rw [hq] at hr;cases hr
  |false=>rw [hq] at hr;cases hr) p.size 0 h).1
 refine scan_none _ _ fun i h0 hi=>?_
 have:=ha i h0 hi
 cases hb:(bt p (i:Int)==47)&&memB l' (p.extract 0 i) with
 |false=>rfl
 |true =>
  exfalso
  rw [Bool.and_eq_true] at hb
  rw [hb.1,hsub _ hb.2] at this
  cases this
theorem checkFiles_ofC {l:List File} (hl:l.length≤1000) (hp:∀x∈l,isPathS x.p=true∧x.b.size≤100000) (hs:SortedB (l.map File.p)) (hc:∀x∈l,clashB l x.p=false) (hsum:(l.map fun f=>f.b.size).sum≤2000000):checkFilesS l=0:=by
 unfold checkFilesS
 rw [decide_eq_false (by omega)]
 have e1:decide (sumB l l.length>2000000)=false:=by
  rw [sum_take l l.length (Nat.le_refl _),List.take_of_length_le (Nat.le_refl _)]
  exact decide_eq_false (by omega)
 rw [e1]
 have e2:scan (clashS l) (match false with|true=>(2:Int)|false=>0) l.length 0=0:=by
  refine scan_none _ _ fun i _ hi=>?_
  unfold clashS
  rw [hc _ (file_mem l i (by omega))]
 dsimp only
 dsimp only at e2
 rw [e2]
 refine scan_none _ _ fun i _ hi=>?_
 have hi:i<l.length:=by omega
 have hm:=hp _ (file_mem l i hi)
 unfold fileS
 rw [hm.1,Bool.not_true]
 dsimp only
 rw [decide_eq_false (by omega)]
 dsimp only
 have hq:(decide (0<i)&&(strLt (l.getD i .zero).p (l.getD (i-1) .zero).p||strEq (l.getD i .zero).p (l.getD (i-1) .zero).p))=false:=by
  by_cases h0:0<i
  ·rw [decide_eq_true h0,Bool.true_and]
   rw [SortedB,List.pairwise_iff_getElem] at hs
   have hlt:=hs (i-1) i (by simp;omega) (by simp;omega) (by omega)
   rw [List.getElem_map,List.getElem_map] at hlt
   have e1:l.getD i .zero=l[i]'(by omega):=by rw [List.getD_eq_getElem?_getD,List.getElem?_eq_getElem (by omega)];rfl
   have e2:l.getD (i-1) .zero=l[i-1]'(by omega):=by rw [List.getD_eq_getElem?_getD,List.getElem?_eq_getElem (by omega)];rfl
   rw [e1,e2,Bool.or_eq_false_iff]
   constructor
   ·cases h:strLt (l[i]'(by omega)).p (l[i-1]'(by omega)).p with
    |false=>rfl
    |true=>have:=strLt_trans hlt h;rw [strLt_irrefl] at this;cases this
   ·cases h:strEq (l[i]'(by omega)).p (l[i-1]'(by omega)).p with
    |false=>rfl
    |true=>rw [(strEq_iff _ _).1 h,strLt_irrefl] at hlt;cases hlt
  ·rw [decide_eq_false h0,Bool.false_and]
 rw [hq]
theorem filt_sum (q:WF→Bool):∀l:List WF,((l.filter q).map fun f=>f.b.size).sum≤(l.map fun f=>f.b.size).sum
 |[]=>Nat.le_refl _
 |f::l=>by
  have ih:=filt_sum q l
  rw [List.filter_cons]
  split
  ·simp only [List.map_cons,List.sum_cons];omega
  ·simp only [List.map_cons,List.sum_cons];omega
theorem filt_len (q:WF→Bool):∀l:List WF,(l.filter q).length+(l.filter fun f=>!(q f)).length=l.length
 |[]=>rfl
 |f::l=>by
  have ih:=filt_len q l
  rw [List.filter_cons,List.filter_cons]
  cases q f with
  |true=>simp only [Bool.not_true,if_true,Bool.false_eq_true,if_false,List.length_cons];omega
  |false=>simp only [Bool.not_false,if_true,Bool.false_eq_true,if_false,List.length_cons];omega
theorem read_mem {looks:List LkE} {files:List File} {g:WF} (h:g∈readF looks files):(∃f∈files,g=toWF f)∧lookd looks g.p=true:=by
 unfold readF at h
 rw [List.mem_filter] at h
 obtain ⟨f,hf,e⟩:=List.mem_map.1 h.1
 exact ⟨⟨f,hf,e.symm⟩,h.2⟩
theorem read_both {a:Act} {files:List File} (hb:bothS a files=0) (looks:List LkE):bothS a ((readF looks files).map toF)=0:=by
 obtain ⟨h1,h2⟩:=bothS_ok hb
 have hf:=file_facts h2
 have hm:=file_more h2
 have hsubl:(readF looks files).Sublist (files.map toWF):=List.filter_sublist
 have h3:checkFilesS ((readF looks files).map toF)=0:=by
  refine checkFiles_ofC ?_ (fun x hx=>?_) ?_ (fun x hx=>?_) ?_
  ·have:=hsubl.length_le
   rw [List.length_map] at this ⊢
   have:=hf.len;omega
  ·obtain ⟨g,hg,rfl⟩:=List.mem_map.1 hx
   obtain ⟨⟨f,hff,rfl⟩,_⟩:=read_mem hg
   exact hf.fit f hff
  ·have e:((readF looks files).map toF).map File.p=(readF looks files).map WF.p:=by rw [List.map_map];rfl
   rw [e]
   have e2:(files.map toWF).map WF.p=files.map File.p:=by rw [List.map_map];rfl
   exact List.Pairwise.sublist (hsubl.map WF.p) (by rw [e2];exact hf.sorted)
  ·obtain ⟨g,hg,rfl⟩:=List.mem_map.1 hx
   obtain ⟨⟨f,hff,rfl⟩,_⟩:=read_mem hg
   refine clash_sub (l:=files) (fun q hq=>?_) (hm.1 f hff)
   obtain ⟨y,hy,e⟩:=List.any_eq_true.1 hq
   obtain ⟨g',hg',rfl⟩:=List.mem_map.1 hy
   obtain ⟨⟨f',hff',rfl⟩,_⟩:=read_mem hg'
   exact List.any_eq_true.2 ⟨f',hff',e⟩
  ·rw [List.map_map]
   have e:=filt_sum (fun f=>lookd looks f.p) (files.map toWF)
   rw [List.map_map] at e
   exact Nat.le_trans e hm.2
 have h4:files.any (meetS a)=false:=by
  unfold bothS at hb
  rw [show (actS a==0)=true by rw [h1];rfl,show (checkFilesS files==0)=true by rw [h2];rfl,cond_true,cond_true] at hb
  cases hq:files.any (meetS a) with
  |false=>rfl
  |true=>rw [hq] at hb;exact absurd (show (12:Int)=0 from hb) (by decide)
 have h5:((readF looks files).map toF).any (meetS a)=false:=by
  rw [List.any_eq_false] at h4 ⊢
  intro x hx
  obtain ⟨g,hg,rfl⟩:=List.mem_map.1 hx
  obtain ⟨⟨f,hff,rfl⟩,_⟩:=read_mem hg
  exact h4 f hff
 unfold bothS
 rw [show (actS a==0)=true by rw [h1];rfl,h3,h5]
 rfl
theorem lookd_iff (looks:List LkE) (p:ByteArray):lookd looks p=true ↔ ∃x∈looks,x.p=p:=by
 unfold lookd
 rw [List.any_eq_true]
 constructor
 ·rintro ⟨q,hq,e⟩
  obtain ⟨x,hx,rfl⟩:=List.mem_map.1 hq
  exact ⟨x,hx,of_decide_eq_true e⟩
 ·rintro ⟨x,hx,e⟩
  exact ⟨x.p,List.mem_map_of_mem hx,decide_eq_true e⟩
theorem read_get {looks:List LkE} (files:List File) {p:ByteArray} (h:lookd looks p=true):getF (readF looks files) p=getF (files.map toWF) p:=by
 unfold getF readF
 rw [List.find?_filter]
 congr 1
 funext f
 by_cases e:f.p=p
 ·simp [e,h]
 ·simp [e]
theorem read_fo {a:Act} {files:List File} (fo:FilesOk files) (looks:List LkE):FilesOk ((readF looks files).map toF):=by
 have hsubl:(readF looks files).Sublist (files.map toWF):=List.filter_sublist
 refine ⟨?_,fun x hx=>?_,fun x hx=>?_⟩
 ·have:=hsubl.length_le
  rw [List.length_map] at this ⊢
  have:=fo.n;omega
 ·obtain ⟨g,hg,rfl⟩:=List.mem_map.1 hx
  obtain ⟨⟨f,hff,rfl⟩,_⟩:=read_mem hg
  exact fo.b f hff
 ·obtain ⟨g,hg,rfl⟩:=List.mem_map.1 hx
  obtain ⟨⟨f,hff,rfl⟩,_⟩:=read_mem hg
  exact fo.p f hff
theorem containsF_at {k:Nat} (hk:Many k) (l:List WF) (hl:l.length≤1000) (p:ByteArray) (S:List LV) (K:Bool×Unit→List LV→Option R):G.Qcs.fn k (l.map WF.lv,(p,()),()) S K=K ((getF l p).isSome,()) S:=by
 obtain ⟨m,h1,h2⟩:=indexF_at hk (l.map toF) (by rw [List.length_map];exact hl) p
 rw [toF_lv] at h1
 rw [toF_WF] at h2
 unfold G.Qcs.fn
 rw [h1]
 dsimp only
 rcases h2 with ⟨rfl,g⟩|⟨i,rfl,_,g⟩
 ·rw [g];rfl
 ·rw [g,decide_eq_true (by omega)];rfl
theorem apart_at {looks:List LkE} {files:List File} {f:File} (hf:f∈files):(((unreadF looks files).map WF.p).any (strEq f.p)==(getF (readF looks files) f.p).isSome)=false:=by
 cases hq:lookd looks f.p with
 |true =>
  have h1:((unreadF looks files).map WF.p).any (strEq f.p)=false:=by
   rw [List.any_eq_false]
   intro q hqm
   obtain ⟨g,hg,rfl⟩:=List.mem_map.1 hqm
   unfold unreadF at hg
   rw [List.mem_filter] at hg
   intro e
   have e:=(strEq_iff _ _).1 e
   have:=hg.2
   rw [←e,hq] at this
   cases this
  have h2:(getF (readF looks files) f.p).isSome=true:=by
   refine getF_some (List.mem_map.2 ⟨toWF f,?_,rfl⟩)
   unfold readF
   exact List.mem_filter.2 ⟨List.mem_map_of_mem hf,hq⟩
  rw [h1,h2];rfl
 |false =>
  have h1:((unreadF looks files).map WF.p).any (strEq f.p)=true:=by
   refine List.any_eq_true.2 ⟨f.p,List.mem_map.2 ⟨toWF f,?_,rfl⟩,(strEq_iff _ _).2 rfl⟩
   unfold unreadF
   exact List.mem_filter.2 ⟨List.mem_map_of_mem hf,by show (!(lookd looks f.p))=true;rw [hq];rfl⟩
  have h2:(getF (readF looks files) f.p).isSome=false:=by
   cases hg:getF (readF looks files) f.p with
   |none=>rfl
   |some g =>
    have hp:=getF_p hg
    have:=(read_mem (List.mem_of_find?_eq_some hg)).2
    rw [hp,hq] at this
    cases this
  rw [h1,h2];rfl
theorem apart_loop {k:Nat} (hk:Many k) (a:Act) (looks:List LkE) (files:List File) (hl:files.length≤1000) (S:List LV) (J:List LV×ActT×List LV×Unit→List LV→Option R) (Jret:Bool×Unit→List LV→Option R):∀(xs pre:List File) (n:Nat),files=pre++xs→xs.length<n →
  rounds (G.Qdc.b0 k J Jret) n (files.map File.lv,a.tup,(readF looks files).map WF.lv,((unreadF looks files).map WF.p).map .str,(pre.length:Int),()) S=J (files.map File.lv,a.tup,(readF looks files).map WF.lv,()) S
 |xs,pre,0,e,hn=>absurd hn (Nat.not_lt_zero _)
 |[],pre,n+1,e,hn=>by
  rw [List.append_nil] at e
  rw [rounds_succ]
  unfold G.Qdc.b0
  dsimp only
  rw [List.length_map,show files.length=pre.length by rw [e],lt_nat,ifB_neg (Nat.lt_irrefl _)]
 |f::xs,pre,n+1,e,hn=>by
  have hlen:files.length=pre.length+(xs.length+1):=by rw [e];simp
  have hget:(files.map File.lv).getD pre.length .any=f.lv:=by rw [e];simp [List.getD_eq_getElem?_getD]
  have ih:=apart_loop hk a looks files hl S J Jret xs (pre++[f]) n (by rw [e];simp) (by simp at hn;omega)
  rw [show (pre++[f]).length=pre.length+1 by simp] at ih
  have hl0:∀(K:ByteArray→Option R),asStr (leaf f.lv 0) K=K f.p:=fun _=>rfl
  have hr:(readF looks files).length≤1000:=by
   have:(readF looks files).Sublist (files.map toWF):=List.filter_sublist
   have:=this.length_le
   rw [List.length_map] at this;omega
  have hu:((unreadF looks files).map WF.p).length≤1000:=by
   have:(unreadF looks files).Sublist (files.map toWF):=List.filter_sublist
   have:=this.length_le
   rw [List.length_map] at this ⊢;omega
  rw [rounds_succ]
  unfold G.Qdc.b0 at ih ⊢
  dsimp only at ih ⊢
  rw [show ((files.map File.lv).length:Int)=(files.length:Int) by rw [List.length_map]]
  rw [lt_nat,ifB_pos (by omega),idxL_nat (by rw [List.length_map];omega),hget,hl0,idxL_nat (by rw [List.length_map];omega),hget,hl0,contains_at hk _ (by omega)]
  dsimp only
  rw [containsF_at hk _ hr]
  dsimp only
  rw [apart_at (f:=f) (by rw [e];simp),ifB_false,wrap_succ (by omega)]
  exact ih
theorem law7 {k:Nat} (hk:Many k) {a:Act} (ok:ActOk a) {files:List File} (fo:FilesOk files) {S:List LV} (hg:GlobOk S) (K:Bool×Unit→List LV→Option R) :
  G.Qdc.fn k (a.tup,files.map File.lv,()) S K=K (true,()) S:=by
 have hk2:=hk
 unfold Many at hk2
 unfold G.Qdc.fn G.Qae.fn
 rcases exec_cases hk ok fo hg with ⟨hb,h⟩|⟨hb,ms,h1,h2,h⟩
 ·rw [split_err hb h]
  dsimp only
  have hb2:(bothS a files==0)=false:=by rw [beq_eq_false_iff_ne];exact hb
  rw [bne,hb2,Bool.not_false,ifB_true]
  show ifB true _ _=_
  rw [ifB_true,prog_awake hk]
 ·have ha:=act_facts (bothS_ok hb).1
  have hf:=file_facts (bothS_ok hb).2
  have ho:=ran_out k hb h1 h2
  have hbs:∀f∈files,f.b.size≤100000:=fun f hm=>(hf.fit f hm).2
  have hl4:(execS k a ms (files.map toWF)).looks.length≤4000:=by have:=ho.len;omega
  rw [split_at' hk hf.len hbs hl4 h]
  dsimp only
  rw [show ((0:Int) != 0)=false from rfl,ifB_false]
  unfold G.Qag.fn
  rw [split_at' hk hf.len hbs hl4 h]
  dsimp only
  have hlen:=filt_len (fun f=>lookd (execS k a ms (files.map toWF)).looks f.p) (files.map toWF)
  have hul:(unreadF (execS k a ms (files.map toWF)).looks files).length≤1000:=by
   have:(unreadF (execS k a ms (files.map toWF)).looks files).Sublist (files.map toWF):=List.filter_sublist
   have:=this.length_le
   rw [List.length_map] at this
   have:=hf.len;omega
  have hrl:(readF (execS k a ms (files.map toWF)).looks files).length+(unreadF (execS k a ms (files.map toWF)).looks files).length=files.length:=by
   rw [List.length_map] at hlen
   exact hlen
  show rounds (G.Qag.b0 k _) k ((0:Int),(([]:List WF).map WF.p).map .str,(unreadF (execS k a ms (files.map toWF)).looks files).map WF.lv,(((unreadF (execS k a ms (files.map toWF)).looks files).map WF.lv).length:Int),((([]:List WF).length:Nat):Int),()) S=_
  rw [show (((unreadF (execS k a ms (files.map toWF)).looks files).map WF.lv).length:Int)=((unreadF (execS k a ms (files.map toWF)).looks files).length:Int) by rw [List.length_map]]
  refine (paths_loopU k 0 (unreadF (execS k a ms (files.map toWF)).looks files) hul S _ (unreadF (execS k a ms (files.map toWF)).looks files) [] k rfl (by omega)).trans ?_
  dsimp only
  rw [show ((0:Int) != 0)=false from rfl,ifB_false]
  have hlf:=hf.len
  rw [List.length_map,List.length_map,List.length_map,List.length_map,wrap_add (by omega),hrl,bne,beq_self_eq_true,Bool.not_true,ifB_false]
  unfold G.Qdc.q0 G.Qdc.q1
  dsimp only
  refine (apart_loop hk a (execS k a ms (files.map toWF)).looks files hf.len S _ K files [] k rfl (by omega)).trans ?_
  dsimp only
  rw [lists_at hk h1 ha.cmds]
  dsimp only
  cases hm:ms.any Cm.isList with
  |true=>rw [ifB_true,prog_awake hk]
  |false =>
   have hb':=read_both hb (execS k a ms (files.map toWF)).looks
   have fo':=read_fo (a:=a) fo (execS k a ms (files.map toWF)).looks
   rw [ifB_false,h]
   dsimp only
   rw [←toF_lv,exec_at hk ok fo' hb' h1 h2 hg,toF_WF]
   dsimp only
   rw [show ((0:Int)==0)=true from rfl,ifB_true,ifB_true]
   have hd:=decide_run k a (F:=files.map toWF) (G:=readF (execS k a ms (files.map toWF)).looks files) hm (ran_agr k fun x hx=>(read_get files ((lookd_iff _ _).2 ⟨x,hx,rfl⟩)).symm)
   rw [hd,sameResult_at hk _ (by have:=ran_files k hb h1 h2;omega) (by omega)]
   dsimp only
   rw [ifB_true,prog_awake hk]
end
end Go.Lm
namespace Go.Lm
section
variable {P:Program}
inductive Ty where
 |int (k:IntKind)|bool|str|sl (z bytes:Nat) (e:Ty)|nil|cons (a b:Ty)
def Ty.T:Ty→Type
 | .int _=>Int
 | .bool=>Bool
 | .str=>ByteArray
 | .sl _ _ e=>List e.T
 | .nil=>Unit
 | .cons a b=>a.T×b.T
def Ty.n:Ty→Nat
 | .nil=>0
 | .cons a b=>a.n+b.n
 |_=>1
def Ty.isStruct:Ty→Bool
 | .nil=>true
 | .cons _ _=>true
 |_=>false
def Ty.cells:(t:Ty)→t.T→List LV
 | .int k,n=>[.int k n]
 | .bool,b=>[.bool b]
 | .str,s=>[.str s]
 | .sl z _ e,xs=>[.sl z (xs.map fun x=>match e.isStruct with
  |true=>.agg (e.cells x)
  |false=>(e.cells x).getD 0 .any)]
 | .nil,_=>[]
 | .cons a b,x=>a.cells x.1++b.cells x.2
def Ty.elem (e:Ty) (x:e.T):LV:=match e.isStruct with
 |true=>.agg (e.cells x)
 |false=>(e.cells x).getD 0 .any
def Ty.ok:(t:Ty)→t.T→Prop
 | .int k,n=>(Lit.int k n).wf=true
 | .bool,_=>True
 | .str,s=>s.size≤140737488351232
 | .sl _ bytes e,(xs:List e.T)=>xs.length*bytes≤140737488351232∧xs.length≤9223372036854775807∧∀x,x∈xs→e.ok x
 | .nil,_=>True
 | .cons a b,x=>a.ok x.1∧b.ok x.2
def tyFs (P:Program) (f:TypeId→Option Ty):Nat→List Field→Option Ty
 |_,[]=>some .nil
 |off,fd::fs=>match f fd.type,Nat.beq fd.offset off with
  |some a,true=>(match tyFs P f (off+a.n) fs with
   |some b=>(match Nat.beq (P.cellsOf fd.type) a.n with
    |true=>some (.cons a b)
    |false=>none)
   |none=>none)
  |_,_=>none
def tyOf (P:Program):Nat→TypeId→Option Ty
 |0,_=>none
 |n+1,t=>match P.underlying t with
  |some (.int k)=>some (.int k)
  |some .bool=>some .bool
  |some .string=>some .str
  |some (.slice e)=>(match tyOf P n e with
   |some a=>(match Nat.beq (P.cellsOf e) a.n&&Nat.blt 0 a.n with
    |true=>some (.sl a.n (P.bytesOf e) a)
    |false=>none)
   |none=>none)
  |some (.struct fs)=>(match tyFs P (tyOf P n) 0 fs.toList with
   |some a=>(match Nat.beq (P.cellsOf t) a.n with
    |true=>some a
    |false=>none)
   |none=>none)
  |_=>none
theorem Ty.cells_len:∀(t:Ty) (x:t.T),(t.cells x).length=t.n
 | .int _,_=>rfl
 | .bool,_=>rfl
 | .str,_=>rfl
 | .sl _ _ _,_=>rfl
 | .nil,_=>rfl
 | .cons a b,x=>by simp [Ty.cells,Ty.n,Ty.cells_len a,Ty.cells_len b]
theorem Ty.n_one:∀(t:Ty),t.isStruct=false→t.n=1
 | .int _,_=>rfl
 | .bool,_=>rfl
 | .str,_=>rfl
 | .sl _ _ _,_=>rfl
 | .nil,h=>by cases h
 | .cons a b,h=>by cases h
theorem Ty.leaf_elem (e:Ty) (x:e.T) (j:Nat) (hj:j<e.n):leaf (e.elem x) j=(e.cells x).getD j .any:=by
 unfold Ty.elem
 cases hs:e.isStruct with
 |true=>rfl
 |false =>
  have h1:=e.n_one hs
  have:j=0:=by omega
  subst this
  cases e with
  |nil=>cases hs
  |cons a b=>cases hs
  |_=>rfl
def Cx.start (w:World):Cx:={ ι:=fun _=>0,n:=0,I:=fun b o=>(w.cell? ⟨b,o,none⟩).isSome,w:=w }
def RepC (c:Cx) (xs:List LV) (cs:List Value):Prop:=xs.length=cs.length∧∀i,i<cs.length→Rep c (xs.getD i .any) (cs.getD i undef) []∧(cs.getD i undef).oneCell'=true
theorem mapM_get {α β:Type} {f:α→Option β}:∀{l:List α} {r:List β},l.mapM f=some r→r.length=l.length∧∀(i:Nat) (a:α),l[i]? = some a→∃b,f a=some b∧r[i]? = some b
 |[],r,h=>by simp at h;subst h;exact ⟨rfl,fun i a h=>by simp at h⟩
 |a::l,r,h=>by
  simp only [List.mapM_cons,Option.bind_eq_bind,Option.bind_eq_some_iff,Option.pure_def,Option.some.injEq] at h
  obtain ⟨b,hb,r',hr',rfl⟩:=h
  obtain ⟨h1,h2⟩:=mapM_get hr'
  refine ⟨by simp [h1],fun i x hx=>?_⟩
  cases i with
  |zero=>simp at hx;subst hx;exact ⟨b,hb,by simp⟩
  |succ i=>simp at hx;obtain ⟨b',h3,h4⟩:=h2 i x hx;exact ⟨b',h3,by simpa using h4⟩
theorem cells?_get {w:World} {base:Nat} {a:Addr} {n:Nat} {r:List Value} (h:w.cells? base a n=some r):r.length=n∧∀i,i<n→w.cell? (a.add i)=some (r.getD i undef):=by
 unfold World.cells? at h
 split at h
 ·obtain ⟨h1,h2⟩:=mapM_get h
  refine ⟨by simpa using h1,fun i hi=>?_⟩
  obtain ⟨b,h3,h4⟩:=h2 i i (by simp [hi])
  rw [h3,List.getD_eq_getElem?_getD,h4];rfl
 ·cases h
theorem cell_spot {w:World} {a:Addr} {v:Value} (h:w.cell? a=some v):a.spot=none:=by
 unfold World.cell? at h
 split at h
 ·split at h
  ·cases h
  ·rename_i hs;cases ha:a.spot with
   |none=>rfl
   |some s=>simp [ha] at hs
 ·cases h
theorem weights_elem {H:Type} {e:TypeId} {l:List (DataW H)} {d:DataW H} (hd:d∈l):∀n,n∈d.weights P e→n∈DataW.weightsAll P e l:=by
 intro n hn
 induction l with
 |nil=>cases hd
 |cons x l ih =>
  simp only [DataW.weightsAll,List.mem_append]
  rcases List.mem_cons.1 hd with rfl|hd
  ·exact .inl hn
  ·exact .inr (ih hd)
section
variable {H:Type} {enc:TypeId×Value→H} {w:World} {base:Nat} {spare:Nat→Bool} {held:Bool}
theorem read_ok:∀(n:Nat) (t:TypeId) (τ:Ty) (fuel:Nat) (cs:List Value) (d:DataW H) (ps:List MemPlace),tyOf P n t=some τ→DataW.trod enc P w base spare held fuel t cs=some (d,ps) →
  (∀m,m∈d.weights P t→m≤reachBytes)→∃x:τ.T,τ.ok x∧RepC (Cx.start w) (τ.cells x) cs
 |0,t,τ,fuel,cs,d,ps,ht,_,_=>by cases ht
 |n+1,t,τ,fuel,cs,d,ps,ht,h,hw=>by
  have fields:∀(m:Nat) (fs:List Field) (off:Nat) (τ:Ty) (xs:List (DataW H×List MemPlace)),tyFs P (tyOf P n) off fs=some τ→xs.length=fs.length→(∀(i:Nat) (f:Field),fs[i]? = some f→DataW.trod enc P w base spare held m f.type ((cs.drop f.offset).take (P.cellsOf f.type))=xs[i]?) →
    (∀m,m∈DataW.weightsEach P (fs.map (·.type)) (xs.map (·.1))→m≤reachBytes)→off + τ.n≤cs.length→∃x:τ.T,τ.ok x∧RepC (Cx.start w) (τ.cells x) ((cs.drop off).take τ.n):=by
   intro m fs
   induction fs with
   |nil =>
    intro off τ xs hτ _ _ _ _
    simp only [tyFs,Option.some.injEq] at hτ
    subst hτ
    exact ⟨(),trivial,by simp [Ty.cells,Ty.n],fun i hi=>by simp [Ty.n] at hi⟩
   |cons f fs ih =>
    intro off τ xs hτ hxl hm hwt hle
    simp only [tyFs] at hτ
    split at hτ
    ·rename_i a ha hoff
     split at hτ
     ·rename_i b hb
      split at hτ
      ·rename_i hca
       cases hτ
       have hoff:=Nat.eq_of_beq_eq_true hoff
       have hca:=Nat.eq_of_beq_eq_true hca
       cases xs with
       |nil=>simp at hxl
       |cons y ys =>
       obtain ⟨y,yp⟩:=y
       have hy:=hm 0 f (by simp)
       simp only [List.getElem?_cons_zero] at hy
       simp only [Ty.n] at hle ⊢
       obtain ⟨x1,ok1,hl1,hr1⟩:=read_ok n f.type a m _ y yp ha hy (fun m hm=>hwt m (by simp only [List.map_cons,DataW.weightsEach,List.mem_append];exact .inl hm))
       obtain ⟨x2,ok2,hl2,hr2⟩:=ih (off+a.n) b ys hb (by simpa using hxl) (fun i f hf=>by have:=hm (i+1) f (by simpa using hf);simpa using this) (fun m hm=>hwt m (by simp only [List.map_cons,DataW.weightsEach,List.mem_append];exact .inr hm)) (by omega)
       rw [hoff,hca] at hl1 hr1
       have la:=a.cells_len x1
       have lb:=b.cells_len x2
       refine ⟨(x1,x2),⟨ok1,ok2⟩,by simp [Ty.cells,la,lb];omega,fun i hi=>?_⟩
       have hi':i<a.n+b.n:=by simp at hi;omega
       have e0:((cs.drop off).take (a.n+b.n)).getD i undef=cs.getD (off+i) undef:=by
        simp only [List.getD_eq_getElem?_getD,List.getElem?_take,List.getElem?_drop];rw [if_pos hi']
       by_cases h1:i<a.n
       ·have e1:(a.cells x1++b.cells x2).getD i .any=(a.cells x1).getD i .any:=getD_app_lt _ _ _ _ (by rw [la];exact h1)
        have e2:((cs.drop off).take a.n).getD i undef=cs.getD (off+i) undef:=by
         simp only [List.getD_eq_getElem?_getD,List.getElem?_take,List.getElem?_drop];rw [if_pos h1]
        have:=hr1 i (by simp;omega)
        rw [e2] at this
        show Rep _ ((a.cells x1++b.cells x2).getD i .any) _ []∧_
        rw [e0,e1];exact this
       ·have e1:(a.cells x1++b.cells x2).getD i .any=(b.cells x2).getD (i-a.n) .any:=by
         simp only [List.getD_eq_getElem?_getD];rw [List.getElem?_append_right (by rw [la];omega),la]
        have e2:((cs.drop (off+a.n)).take b.n).getD (i-a.n) undef=cs.getD (off+i) undef:=by
         simp only [List.getD_eq_getElem?_getD,List.getElem?_take,List.getElem?_drop];rw [if_pos (by omega)];congr 2;omega
        have:=hr2 (i-a.n) (by simp;omega)
        rw [e2] at this
        show Rep _ ((a.cells x1++b.cells x2).getD i .any) _ []∧_
        rw [e0,e1];exact this
      ·cases hτ
     ·cases hτ
    ·cases hτ
  have one:∀{v:Value} {x:LV},cs=[v]→Rep (Cx.start w) x v []→v.oneCell'=true→RepC (Cx.start w) [x] cs:=fun {v x} hc hr h1=>by
   subst hc
   exact ⟨rfl,fun i hi=>by
    have:i=0:=by simpa using hi
    subst this;simpa using ⟨hr,h1⟩⟩
  unfold tyOf at ht
  split at ht
  ·rename_i k hu
   cases ht
   obtain ⟨m,hc,hx,hwf⟩:=DataW.trod_int hu h
   exact ⟨m,hwf,one hc (.int _ _) rfl⟩
  ·rename_i hu
   cases ht
   obtain ⟨m,hc,hx⟩:=DataW.trod_bool hu h
   exact ⟨m,trivial,one hc (.bool _) rfl⟩
  ·rename_i hu
   cases ht
   obtain ⟨m,hc,hx,_⟩:=DataW.trod_string hu h
   cases hx
   refine ⟨m,?_,one hc (.str _) rfl⟩
   have:=hw m.data.toList.length (by simp [DataW.weights])
   simpa [Ty.ok,reachBytes] using this
  ·rename_i e hu
   split at ht
   ·rename_i a ha
    split at ht
    ·rename_i hb
     simp only [Bool.and_eq_true] at hb
     have hce:=Nat.eq_of_beq_eq_true hb.1
     have hpos:0<a.n:=Nat.le_of_ble_eq_true hb.2
     cases ht
     rcases DataW.trod_slice hu h with ⟨hc,hx⟩|⟨ad,len,cap,elems,rest,m,_,hc,hx,_,hlc,hcm,hel,hget,_⟩
     ·exact ⟨([]:List a.T),⟨by simp,by simp,fun x hx=>by simp at hx⟩,one hc (.sl0 _ none 0 (fun _=>rfl)) rfl⟩
     ·cases hx
      have hwt:∀m,m∈DataW.weightsAll P e (elems.map (·.1))→m≤reachBytes:=fun m hm=>hw m (by simp only [DataW.weights,hu,List.mem_cons,List.mem_append];exact .inr (.inl hm))
      have each:∀i,i<len→∃x:a.T,a.ok x∧∃row:List Value,row.length=a.n∧(∀j,j<a.n→w.cell? ((ad.add (i*a.n)).add j)=some (row.getD j undef))∧RepC (Cx.start w) (a.cells x) row:=by
       intro i hi
       have hy:=hget i hi
       have hi':i<elems.length:=by omega
       rw [List.getElem?_eq_getElem hi'] at hy
       simp only [Option.bind_eq_some_iff] at hy
       obtain ⟨row,hrow,hy⟩:=hy
       rw [hce] at hrow
       obtain ⟨h1,h2⟩:=cells?_get hrow
       obtain ⟨x,hok,hrep⟩:=read_ok n e a m row elems[i].1 elems[i].2 ha hy (fun m hm=>hwt m (weights_elem (List.mem_map.2 ⟨_,List.getElem_mem hi',rfl⟩) m hm))
       exact ⟨x,hok,row,h1,h2,hrep⟩
      have all:∀k,k≤len→∃xs:List a.T,xs.length=k∧∀i (hi:i<xs.length),a.ok xs[i]∧∃row:List Value,row.length=a.n∧(∀j,j<a.n→w.cell? ((ad.add (i*a.n)).add j)=some (row.getD j undef))∧RepC (Cx.start w) (a.cells xs[i]) row:=by
       intro k
       induction k with
       |zero=>intro _;exact ⟨[],rfl,fun i hi=>by simp at hi⟩
       |succ k ih =>
        intro hk
        obtain ⟨xs,hl,hxs⟩:=ih (by omega)
        obtain ⟨x,hx⟩:=each k (by omega)
        refine ⟨xs++[x],by simp [hl],fun i hi=>?_⟩
        by_cases h1:i<xs.length
        ·rw [List.getElem_append_left h1];exact hxs i h1
        ·have:i=k:=by simp at hi;omega
         subst this
         rw [List.getElem_append_right (by omega)]
         simpa [hl] using hx
      obtain ⟨xs,hl,hxs⟩:=all len (Nat.le_refl _)
      have hsz:=hw ((elems.length+rest.length)*P.bytesOf e) (by simp [DataW.weights,hu])
      have hmax:cap≤9223372036854775807:=hcm
      refine ⟨xs,⟨?_,?_,fun x hx=>?_⟩,?_⟩
      ·show xs.length*_≤_
       rw [hl,←hel]
       refine Nat.le_trans (Nat.mul_le_mul_right _ (Nat.le_add_right _ rest.length)) ?_
       simpa [reachBytes] using hsz
      ·show xs.length≤_
       omega
      ·obtain ⟨i,hi,rfl⟩:=List.mem_iff_getElem.1 hx
       exact (hxs i hi).1
      ·refine one hc ?_ rfl
       have hmapl:(xs.map fun x=>match a.isStruct with|true=>LV.agg (a.cells x)|false=>(a.cells x).getD 0 .any)=xs.map a.elem:=rfl
       show Rep _ (.sl a.n (xs.map fun x=>match a.isStruct with|true=>LV.agg (a.cells x)|false=>(a.cells x).getD 0 .any)) _ _
       rw [hmapl]
       by_cases h0:len=0
       ·have:xs=[]:=List.eq_nil_of_length_eq_zero (by omega)
        subst this
        subst h0
        exact .sl0 _ (some ad) cap (fun h=>by cases h)
       ·obtain ⟨_,row0,_,hr0,_⟩:=hxs 0 (by omega)
        have hs:=hr0 0 hpos
        have hadd:(ad.add (0*a.n)).add 0=ad:=by simp [Addr.add]
        rw [hadd] at hs
        have hspot:=cell_spot hs
        have had:ad=⟨ad.block,ad.off,none⟩:=by cases ad;simp only at hspot;subst hspot;rfl
        have addr:∀i j,(ad.add (i*a.n)).add j=⟨ad.block,ad.off+(i*a.n+j),none⟩:=fun i j=>by
         have:(ad.add (i*a.n)).add j=((⟨ad.block,ad.off,none⟩:Addr).add (i*a.n)).add j:=by rw [←had]
         rw [this,Addr.add_lit,Addr.add_lit,Nat.add_assoc]
        have cell:∀p,p<len*a.n→∃(x:a.T) (row:List Value),xs[p / a.n]? = some x∧row.length=a.n∧w.cell? ⟨ad.block,ad.off+p,none⟩=some (row.getD (p % a.n) undef)∧RepC (Cx.start w) (a.cells x) row:=fun p hp=>by
         have hd:p / a.n<xs.length:=by rw [hl];exact Nat.div_lt_of_lt_mul (by rw [Nat.mul_comm];exact hp)
         have hm:=Nat.mod_lt p hpos
         obtain ⟨_,row,h1,h2,h3⟩:=hxs _ hd
         have:=h2 _ hm
         rw [addr,Nat.div_add_mod' p a.n] at this
         exact ⟨xs[p / a.n],row,by simp [hd],h1,this,h3⟩
        have:=Rep.sl (c:=Cx.start w) a.n ad.block ad.off cap (xs.map a.elem) (fun p=>(w.cell? ⟨ad.block,ad.off+p,none⟩).getD undef) (by simp [hl];exact hlc) (by simp [hl];omega)
         (fun p hp=>by
          simp only [List.length_map,hl] at hp
          obtain ⟨x,row,_,_,h1,_⟩:=cell p hp
          show w.cell? _=_
          rw [h1];rfl)
         (fun p hp=>by
          simp only [List.length_map,hl] at hp
          obtain ⟨x,row,_,_,h1,_⟩:=cell p hp
          show (w.cell? _).isSome=true
          rw [h1];rfl)
         (fun p hp=>by
          simp only [List.length_map,hl] at hp
          obtain ⟨x,row,_,h0,h1,h2,h3⟩:=cell p hp
          rw [h1]
          exact (h3 _ (by rw [h0];exact Nat.mod_lt p hpos)).2)
         (fun p hp=>by
          simp only [List.length_map,hl] at hp
          obtain ⟨x,row,hx,h0,h1,h2,h3⟩:=cell p hp
          have hm:=Nat.mod_lt p hpos
          have e1:(xs.map a.elem).getD (p / a.n) .any=a.elem x:=by simp [List.getD_eq_getElem?_getD,hx]
          rw [e1,a.leaf_elem x _ hm,h1]
          exact (h3 _ (by rw [h0];exact hm)).1)
        rw [List.length_map,hl,←had] at this
        exact this
    ·cases ht
   ·cases ht
  ·rename_i fs hu
   split at ht
   ·rename_i a ha
    split at ht
    ·rename_i hb
     have hcl:=Nat.eq_of_beq_eq_true hb
     cases ht
     obtain ⟨xs,m,_,hx,hl,hxl,hget⟩:=DataW.trod_struct hu h
     cases hx
     obtain ⟨x,hok,hrep⟩:=fields m fs.toList 0 τ xs ha (by simpa using hxl) (fun i f hf=>hget i f (by simpa using hf)) (fun m hm=>hw m (by simp only [DataW.weights,hu];exact hm)) (by omega)
     have:(cs.drop 0).take τ.n=cs:=by rw [List.drop_zero,←hcl,←hl,List.take_length]
     rw [this] at hrep
     exact ⟨x,hok,hrep⟩
    ·cases ht
   ·cases ht
  ·cases ht
end
def Ty.arg (t:Ty) (x:t.T):LV:=t.elem x
theorem arg_ok {H:Type} {enc:TypeId×Value→H} {w:World} {base:Nat} {t:TypeId} {τ:Ty} {v:Value} {d:DataW H} {ps:List MemPlace} {n:Nat} (ht:tyOf P n t=some τ) (hv:Value.okWide P w .any base t v)
  (h:DataW.Trod enc P w 0 (fun _=>true) true t v d ps) (hw:∀m,m∈d.weights P t→m≤reachBytes):∃x:τ.T,τ.ok x∧Rep (Cx.start w) (τ.arg x) v []:=by
 obtain ⟨fuel,hf⟩:=h
 obtain ⟨x,hok,hl,hr⟩:=read_ok n t τ fuel _ d ps ht hf hw
 refine ⟨x,hok,?_⟩
 have hlen:=τ.cells_len x
 have single:τ.isStruct=false→v.cells.toList=[v]→Rep (Cx.start w) (τ.arg x) v []:=fun hs hc=>by
  have h1:=τ.n_one hs
  have:=(hr 0 (by rw [←hl,hlen,h1];exact Nat.one_pos)).1
  rw [hc] at this
  have e:τ.arg x=(τ.cells x).getD 0 .any:=by unfold Ty.arg Ty.elem;rw [hs]
  rw [e]
  simpa using this
 cases n with
 |zero=>cases ht
 |succ n =>
  unfold tyOf at ht
  split at ht
  ·rename_i k hu
   cases ht
   obtain ⟨m,rfl⟩:=WideShapes.okWide_int hu hv
   exact single rfl rfl
  ·rename_i hu
   cases ht
   obtain ⟨m,rfl⟩:=WideShapes.okWide_bool hu hv
   exact single rfl rfl
  ·rename_i hu
   cases ht
   obtain ⟨m,rfl⟩:=WideShapes.okWide_string hu hv
   exact single rfl rfl
  ·rename_i e hu
   obtain ⟨a,len,cap,rfl⟩:=WideShapes.okWide_slice hu hv
   split at ht
   ·split at ht
    ·cases ht;exact single rfl rfl
    ·cases ht
   ·cases ht
  ·rename_i fs hu
   obtain ⟨cs,rfl,hcs⟩:=WideShapes.okWide_struct hu hv
   have hst:τ.isStruct=true:=by
    split at ht
    ·rename_i a ha
     split at ht
     ·cases ht
      cases hfs:fs.toList with
      |nil=>rw [hfs] at ha;simp [tyFs] at ha;subst ha;rfl
      |cons f fs' =>
       rw [hfs] at ha
       simp only [tyFs] at ha
       split at ha
       ·split at ha
        ·split at ha
         ·cases ha;rfl
         ·cases ha
        ·cases ha
       ·cases ha
     ·cases ht
    ·cases ht
   have e:τ.arg x = .agg (τ.cells x):=by unfold Ty.arg Ty.elem;rw [hst]
   rw [e]
   refine .agg _ cs (by rw [hl];rfl) (fun i hi=>?_)
   have:=(hr i (by rw [←hl];exact hi)).1
   simpa [Value.cells,List.getD_eq_getElem?_getD,Array.getD_eq_getD_getElem?] using this
  ·cases ht
def globK:LV→Nat
 | .glob k _=>k
 |_=>0
structure Globs (w:World) (S:List LV):Prop where
 at':∀id,id<S.length→∃k ob,S.getD id .any = .glob k ob∧w.heap[k]? = some ob
 ne:∀id id',id<S.length→id'<S.length→id≠id'→globK (S.getD id .any)≠globK (S.getD id' .any)
def Cx.startG (w:World) (S:List LV):Cx:={ ι:=fun id=>globK (S.getD id .any),n:=S.length,I:=fun b o=>(w.cell? ⟨b,o,none⟩).isSome,w:=w }
theorem start_callsG {f:FuncId} {h:Hd (LV×List LV)} (hs:HSound P f h) {args S S':List LV} {r:LV} {v:Value} {vs:Array Value} {w:World} (hl:vs.size=args.length) (hr:∀i,i<args.length→Rep (Cx.start w) (args.getD i .any) (vs.getD i undef) [])
  (hg:Globs w S) (he:h args S (fun v S=>some (v,S))=some (r,S')) (hS':S.length≤S'.length∧∀id,id<S.length→S'.getD id .any=S.getD id .any) (hv:rigid r=some v):Calls P f vs w fun e w'=>e = .returned v∧RowKit.Below w.heap.size w w':=by
 have hext:Ext (Cx.start w) (Cx.startG w S) (fun _=>False):=⟨Nat.zero_le _,fun id hid=>absurd hid (Nat.not_lt_zero _),fun _ _ h=>h,fun _ _ _=>rfl,Nat.le_refl _,fun _ _ _=>rfl,fun _ _ _ _ h=>h,(fun _ cur _ k _ h=>⟨cur,k,h,rfl⟩),rfl,rfl,rfl⟩
 let o:Ow:=fun k=>match k with
  | .sto id=>(match decide (id<S.length) with|true=>[globK (S.getD id .any)]|false=>[])
  |_=>[]
 have ho:∀k g,g∈o k→∃id,k = .sto id∧id<S.length∧g=globK (S.getD id .any):=fun k g hg=>by
  cases k with
  |env t=>cases hg
  |arg i=>cases hg
  |sto id =>
   simp only [o] at hg
   split at hg
   ·rename_i hd
    exact ⟨id,rfl,of_decide_eq_true hd,by simpa using hg⟩
   ·cases hg
 have hc:=hs.calls he (Cx.startG w S) vs.toList o (by simpa using hl) (fun i hi=>by
   have:=(hr i hi).ext hext (fun _ h=>by cases h)
   simpa [List.getD_eq_getElem?_getD,Array.getD_eq_getD_getElem?] using this) ⟨rfl,fun id hid=>by
    obtain ⟨k,ob,hk,hob⟩:=hg.at' id hid
    have e:(Cx.startG w S).ι id=k:=by simp only [Cx.startG,hk,globK]
    have e2:o (.sto id)=[k]:=by simp only [o,decide_eq_true hid,hk,globK]
    rw [hk,e2]
    show Rep _ _ (.pointer (some ⟨(Cx.startG w S).ι id,0,none⟩)) _
    rw [e]
    exact .glob k ob hob,fun b p hb=>by
   have hb:(w.cell? ⟨b,p,none⟩).isSome=true:=hb
   rcases Nat.lt_or_ge b w.heap.size with h|h
   ·exact h
   ·simp [World.cell?,Array.getElem?_eq_none h] at hb⟩ ⟨fun k=>by
    cases k with
    |env t=>exact List.nodup_nil
    |arg i=>exact List.nodup_nil
    |sto id=>simp only [o];split<;>simp,fun k k' g hne hg1 hg2=>by
    obtain ⟨id,rfl,h1,h2⟩:=ho k g hg1
    obtain ⟨id',rfl,h3,h4⟩:=ho k' g hg2
    exact hg.ne id id' h1 h3 (fun e=>hne (by rw [e])) (h2.symm.trans h4)⟩ (fun k g hg1=>by
    obtain ⟨id,rfl,h1,rfl⟩:=ho k g hg1
    obtain ⟨k,ob,hk,hob⟩:=hg.at' id h1
    rw [hk]
    exact (Array.getElem?_eq_some_iff.1 hob).1)
 refine Calls.mono hc ?_
 rintro e w' ⟨c',u,o',rfl,rfl,hext,hrep,hsto,_,_,_⟩
 have hu:=rigid_rep hv hrep
 subst hu
 refine ⟨rfl,⟨hext.os,hext.tape,hext.output,hext.size,fun b hb=>?_⟩⟩
 by_cases hm:∃k,b∈o k
 ·obtain ⟨k,hk⟩:=hm
  obtain ⟨id,rfl,h1,rfl⟩:=ho k b hk
  obtain ⟨k,ob,hk,hob⟩:=hg.at' id h1
  have h2:=hsto.r id (Nat.lt_of_lt_of_le h1 hS'.1)
  rw [hS'.2 id h1,hk] at h2
  rw [hk]
  show c'.w.heap[k]? = w.heap[k]?
  rw [hob]
  generalize oval (.glob k ob) (c'.ι id)=z at h2
  generalize o' (.sto id)=O at h2
  cases h2 with
  |glob _ _ hh=>exact hh
 ·exact hext.block b hb hm
theorem sized_each {H:Type} {ts:List TypeId} {ds:List (DataW H)} (h:(DataW.weightsEach P ts ds).all (·≤reachBytes)=true) {j:Nat} {t:TypeId} {d:DataW H} (ht:ts[j]? = some t) (hd:ds[j]? = some d):∀m,m∈d.weights P t→m≤reachBytes:=fun m hm =>
 of_decide_eq_true (List.all_eq_true.1 h _ (DataW.weights_mem_each ht hd m hm))
end
end Go.Lm
