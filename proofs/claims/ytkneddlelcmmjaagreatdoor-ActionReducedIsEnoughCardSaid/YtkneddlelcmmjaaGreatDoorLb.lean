/- Parts of the proof: LmEo, LmEp, LmEa, LmFa, LmFb, LmFc, LmFe, LmFd. -/
import Derived.Test.YtkneddlelcmmjaaGreatDoorLa
import Derived.Laws.MakeOwn
import Derived.Orders
set_option linter.unusedVariables false
set_option linter.unusedSimpArgs false
namespace Go.Lm
section
variable {R:Type} {P:Program} {T:Nat→Option TI} {C:Nat→Hd R}
def MkO (mk:List LV→LV) (ty:TypeId):Prop:=mk = .obj ty∨mk = .vec ty
theorem MkO.ne {mk:List LV→LV} {ty:TypeId} (h:MkO mk ty) (xs:List LV):mk xs≠.any:=by rcases h with rfl|rfl<;>simp
theorem MkO.oval {mk:List LV→LV} {ty:TypeId} (h:MkO mk ty) (xs:List LV) (b:Nat):oval (mk xs) b = .pointer (some ⟨b,0,none⟩):=by rcases h with rfl|rfl<;>rfl
theorem MkO.dup {mk:List LV→LV} {ty:TypeId} (h:MkO mk ty) (xs:List LV):dupL (mk xs) = .any:=by rcases h with rfl|rfl<;>rfl
theorem MkO.inv {mk:List LV→LV} {ty:TypeId} (h:MkO mk ty) {c:Cx} {xs:List LV} {g:Nat} {O:List Nat} (r:Rep c (mk xs) (.pointer (some ⟨g,0,none⟩)) O) :
  ∃cur os,O=g::flatO xs.length os∧xs.length≤cur.size∧c.w.heap[g]? = some (.cells cur ty (0,0))∧(∀p,¬ c.I g p)∧(∀p,p<cur.size→(cur.getD p undef).oneCell'=true) ∧
   (∀i,i<xs.length→Rep c (xs.getD i .any) (cur.getD i undef) (os i))∧(mk = .obj ty→cur.size=xs.length):=by
 rcases h with rfl|rfl
 ·cases r with
  |obj _ _ _ cur os hs hh hI h1 hr=>exact ⟨cur,os,rfl,Nat.le_of_eq hs.symm,hh,hI,h1,hr,fun _=>hs⟩
 ·cases r with
  |vec _ _ _ cur os hs hh hI h1 hr=>exact ⟨cur,os,rfl,hs,hh,hI,h1,hr,fun h=>by have:=congrFun h [];cases this⟩
theorem MkO.mk {mk:List LV→LV} {ty:TypeId} (h:MkO mk ty) {c:Cx} {xs:List LV} {g:Nat} {cur:Array Value} {os:Nat→List Nat} (hs:xs.length≤cur.size) (hx:mk = .obj ty→cur.size=xs.length)
  (hh:c.w.heap[g]? = some (.cells cur ty (0,0))) (hI:∀p,¬ c.I g p) (h1:∀p,p<cur.size→(cur.getD p undef).oneCell'=true) (hr:∀i,i<xs.length→Rep c (xs.getD i .any) (cur.getD i undef) (os i)) :
  Rep c (mk xs) (.pointer (some ⟨g,0,none⟩)) (g::flatO xs.length os):=by
 rcases h with rfl|rfl
 ·exact .obj _ _ _ cur os (hx rfl) hh hI h1 hr
 ·exact .vec _ _ _ cur os hs hh hI h1 hr
theorem objAt_some {S:List LV} {id:Nat} {K:(List LV→LV)→List LV→Option R} {r:R} (h:objAt S id K=some r):∃mk ty xs,MkO mk ty∧S.getD id .any=mk xs∧K mk xs=some r:=by
 unfold objAt at h
 split at h
 ·rename_i ty xs hx;exact ⟨_,ty,xs,.inl rfl,hx,h⟩
 ·rename_i ty xs hx;exact ⟨_,ty,xs,.inr rfl,hx,h⟩
 ·cases h
theorem getD_lt {S:List LV} {id:Nat} {x:LV} (h:S.getD id .any=x) (hx:x≠.any):id<S.length:=by
 rcases Nat.lt_or_ge id S.length with h1|h1
 ·exact h1
 ·rw [List.getD_eq_getElem?_getD,List.getElem?_eq_none h1] at h;exact absurd h.symm hx
theorem getD_set_self (S:List LV) (id:Nat) (x:LV) (h:id<S.length):(S.set id x).getD id .any=x:=by simp [List.getD_eq_getElem?_getD,h]
theorem getD_set_other (S:List LV) {id id':Nat} (x:LV) (h:id'≠id):(S.set id x).getD id' .any=S.getD id' .any:=by simp [List.getD_eq_getElem?_getD,List.getElem?_set_ne (Ne.symm h)]
theorem RelO.newObj {fr:Fr} {q:Q} {a:Act} {c:Cx} {ow:Ow} (hr:RelO fr q a c [] [] ow) (ob:Obj) (x:LV)
  (hx:∀c':Cx,c'.w=c.w.alloc ob→Ext c c' (fun _=>False)→(∀p,¬ c'.I c.w.heap.size p)→Rep c' x (oval x c.w.heap.size) [c.w.heap.size]) :
  ∃c',c'.w=c.w.alloc ob∧c'.ι q.S.length=c.w.heap.size∧q.S.length<c'.n∧Rel fr { q with S:=q.S++[x] } a c':=by
 obtain ⟨hb1,hb2⟩:=MapKept.heap_alloc c.w ob
 have hn:=hr.sto.n
 have hsize:(c.w.alloc ob).heap.size=c.w.heap.size+1:=by simp
 let c':Cx:={ c with w:=c.w.alloc ob,n:=c.n+1,ι:=fun id=>if id=c.n then c.w.heap.size else c.ι id }
 have hext:Ext c c' (fun _=>False) :=
  ⟨Nat.le_succ _,fun id hid=>by show (if id=c.n then _ else _)=_;rw [if_neg (Nat.ne_of_lt hid)],fun _ _ h=>h,fun b o hb=>World.cell?_of_block (w:=c.w) (hb2 b (hr.sto.bd b o hb)),by show _≤(c.w.alloc _).heap.size;omega,fun b hb _=>hb2 b hb,fun _ _ _ _ h=>h,(fun _ _ _ _ h _=>False.elim h),rfl,rfl,rfl⟩
 let o':Ow:=fun k=>match k with
  | .sto id=>if id=q.S.length then [c.w.heap.size] else ow (.sto id)
  | .arg _=>[]
  |k=>ow k
 have sub:∀k g,g∈o' k→(k = .sto q.S.length∧g=c.w.heap.size)∨g∈ow k:=fun k g hg=>by
  cases k with
  |sto id =>
   simp only [o'] at hg
   split at hg
   ·rename_i e;subst e;exact .inl ⟨rfl,by simpa using hg⟩
   ·exact .inr hg
  |arg i=>simp [o'] at hg
  |env t=>exact .inr hg
 have hι:c'.ι q.S.length=c.w.heap.size:=by show (if q.S.length=c.n then _ else _)=_;rw [if_pos hn.symm]
 refine ⟨c',rfl,hι,by show _<c.n+1;omega,o',hr.len,hr.alen,fun t ht=>(hr.env t ht).ext hext (by simp),hr.al,⟨by show c.n+1=_;simp [hn],fun id hid=>?_,fun b p hb=>?_⟩,fun i hi=>absurd hi (by simp),rfl,⟨fun k=>?_,fun k k' g hne hg hg'=>?_⟩,hr.ext.trans hext (fun _ _ h=>h.elim),fun k g hg=>?_,hr.df⟩
 ·have hid':id<q.S.length+1:=by simpa using hid
  by_cases e:id=q.S.length
  ·subst e
   have h1:(q.S++[x]).getD q.S.length .any=x:=by simp [List.getD_eq_getElem?_getD]
   show Rep c' ((q.S++[x]).getD q.S.length .any) (oval ((q.S++[x]).getD q.S.length .any) (c'.ι q.S.length)) (o' (.sto q.S.length))
   rw [h1]
   have h3:o' (.sto q.S.length)=[c.w.heap.size]:=by simp [o']
   rw [hι,h3]
   exact hx c' rfl hext (fun p hp=>by have:=hr.sto.bd _ p hp;omega)
  ·have hlt:id<q.S.length:=by omega
   have h1:(q.S++[x]).getD id .any=q.S.getD id .any:=by simp [List.getD_eq_getElem?_getD,List.getElem?_append,hlt]
   show Rep c' ((q.S++[x]).getD id .any) (oval ((q.S++[x]).getD id .any) (c'.ι id)) (o' (.sto id))
   rw [h1]
   have h2:c'.ι id=c.ι id:=by show (if id=c.n then _ else _)=_;rw [if_neg (by omega)]
   have h3:o' (.sto id)=ow (.sto id):=by simp [o',e]
   rw [h2,h3]
   exact (hr.sto.r id hlt).ext hext (by simp)
 ·show b<(c.w.alloc ob).heap.size
  have:=hr.sto.bd b p hb
  omega
 ·cases k with
  |sto id=>simp only [o'];split<;>simp [hr.sep.nd]
  |arg i=>exact List.nodup_nil
  |env t=>exact hr.sep.nd _
 ·rcases sub k g hg with ⟨rfl,rfl⟩|h1<;>rcases sub k' _ hg' with ⟨rfl,h2⟩|h2
  ·exact absurd rfl hne
  ·have:=(hr.own _ _ h2).1;omega
  ·subst h2;have:=(hr.own _ _ h1).1;omega
  ·exact hr.sep.dj k k' g hne h1 h2
 ·show g<(c.w.alloc ob).heap.size∧_
  rcases sub k g hg with ⟨rfl,rfl⟩|h1
  ·exact ⟨by omega,.inr hr.ext.size⟩
  ·exact ⟨by have:=(hr.own k g h1).1;omega,(hr.own k g h1).2⟩
theorem rep_obj0 {c':Cx} {w:World} {xs:List LV} {cells:Array Value} {e:TypeId} (hw:c'.w=w.alloc (.cells cells e)) (hI:∀p,¬ c'.I w.heap.size p) (hs:cells.size=xs.length)
  (h1:∀p,p<cells.size→(cells.getD p undef).oneCell'=true) (hr:∀i,i<xs.length→Rep c' (xs.getD i .any) (cells.getD i undef) []):Rep c' (.obj e xs) (oval (.obj e xs) w.heap.size) [w.heap.size]:=by
 have:=Rep.obj (c:=c') e xs w.heap.size cells (fun _=>[]) hs (by rw [hw];exact heap_alloc_new _ _) hI h1 hr
 rwa [flatO_nil] at this
theorem ok_allocS {o:Oper} {q:Q} {t:TypeId} {ti:TI} (ho:o.op = .alloc t) (ht:tiOf P t=some ti):OpOk P q o (.ptr q.S.length 0) none { q with S:=q.S++[.obj t ti.zero] }:=by
 obtain ⟨i,d,hi,hd,hkd,hlk,z,hz,hzs,hz1,hzl⟩:=tiOf_und ht
 refine op_val fun fr a c hr=>?_
 obtain ⟨ow,hr⟩:=hr
 obtain ⟨c',hw,hι,hlt,hrel⟩:=hr.newObj (.cells z.cells t) (.obj t ti.zero) (fun c' hw _ hI=>by
  refine rep_obj0 hw hI (by rw [hzl];simp) hz1 (fun i hi=>?_)
  rw [hzl,getD_toList_map _ _ (by rw [hzl] at hi;simpa using hi)];exact rep_ofVal _ _)
 obtain ⟨o1,hrel⟩:=hrel
 refine ⟨c',.pointer (some ⟨c.w.heap.size,0,none⟩),?_,hrel.fly1 (by rw [←hι];exact .ptr _ _ hlt),fun _ _ h=>by cases h⟩
 rw [hw]
 simp [execOp,ho,Instr.alloc,zeroValue,typeInfo,hi,hz,run_newVar]
theorem ok_boxS {o:Oper} {q:Q} {t:TypeId} {x:Operand} (ho:o.op = .box t x) (h1:(cellsOf (dup (ev q.E x))).all one=true):OpOk P q o (.ptr q.S.length 0) none { q with S:=q.S++[.obj t (cellsOf (dup (ev q.E x)))] }:=by
 refine op_val fun fr a c hr=>?_
 obtain ⟨ow,hr⟩:=hr
 have hd:=hr.evd x
 obtain ⟨hs,_,ho1⟩:=rep_cells hd h1
 obtain ⟨c',hw,hι,hlt,hrel⟩:=hr.newObj (.cells (a.eval x).cells t) (.obj t (cellsOf (dup (ev q.E x)))) (fun c' hw hext hI =>
  rep_obj0 hw hI hs ho1 (rep_cells (hd.ext hext (fun g hg=>by simp at hg)) h1).2.1)
 obtain ⟨o1,hrel⟩:=hrel
 refine ⟨c',.pointer (some ⟨c.w.heap.size,0,none⟩),?_,hrel.fly1 (by rw [←hι];exact .ptr _ _ hlt),fun _ _ h=>by cases h⟩
 rw [hw]
 simp [execOp,ho,Instr.box,run_newVar]
theorem zeros_len (n:Nat) (zs:List LV):(zeros n zs).length=n*zs.length:=by simp [zeros]
theorem zeros_get (n:Nat) (zs:List LV):∀(p:Nat),p<n*zs.length→(zeros n zs).getD p .any=zs.getD (p % zs.length) .any:=by
 induction n with
 |zero=>intro p hp;simp at hp
 |succ n ih =>
  intro p hp
  have hz:0<zs.length:=Nat.pos_of_ne_zero fun e=>by rw [e] at hp;simp at hp
  have e:zeros (n+1) zs=zs++zeros n zs:=by simp [zeros,List.replicate_succ]
  rw [e]
  by_cases h:p<zs.length
  ·rw [getD_app_lt _ _ _ _ h,Nat.mod_eq_of_lt h]
  ·have e1:(zs++zeros n zs).getD p .any=(zeros n zs).getD (p-zs.length) .any:=by
    simp only [List.getD_eq_getElem?_getD];rw [List.getElem?_append_right (by omega)]
   rw [Nat.add_mul] at hp
   rw [e1,ih _ (by omega),←Nat.mod_eq_sub_mod (by omega)]
theorem ok_makeSlice {o:Oper} {q:Q} {t e:TypeId} {ti ei:TI} {i:TypeInfo} {x y:Operand} {k k':IntKind} {n:Int} (ho:o.op = .makeSlice t x y) (hd:P.underlying t=some (.slice e)) (hi:P.info? e=some i) (hel:tiOf P e=some ei) (_hsz:i.size=ti.esz)
  (hx:ev q.E x = .int k n) (hy:ev q.E y = .int k' n) (h0:0≤n) (hb:(i.bytes:Int)*n≤140737488355328) (h63:n≤9223372036854775807) :
  OpOk P q o (.osl q.S.length 0 ti.esz n.toNat) none { q with S:=q.S++[.obj e (zeros n.toNat ei.zero)] }:=by
 obtain ⟨i',d,hi',_,hkd,hlk,z,hz,hzs,hz1,hzl⟩:=tiOf_und hel
 rw [hi] at hi'
 cases hi'
 refine op_val fun fr a c hr=>?_
 have ex:=hr.evInt hx
 have ey:=hr.evInt hy
 obtain ⟨ow,hr⟩:=hr
 have hrun:=run_make (P:=P) c.w t e i z hd hi hz k k' n n h0 (Int.le_refl _) (by omega) h63
 have hlen:ei.zero.length=i.size:=by rw [hzl];simpa using hzs
 have hms:(madeCells z.cells (n.toNat*i.size)).size=n.toNat*i.size:=size_madeCells _ _
 have hget:∀p,p<n.toNat*i.size→(madeCells z.cells (n.toNat*i.size)).getD p undef=z.cells.getD (p % i.size) undef:=fun p hp=>by
  have hz0:0<z.cells.size:=by rw [hzs];exact Nat.pos_of_ne_zero fun e=>by rw [e] at hp;simp at hp
  have hm:=Nat.mod_lt p hz0
  rw [←hzs] at hp ⊢
  simp only [madeCells,Array.getD_eq_getD_getElem?,Array.getElem?_map]
  rw [Array.getElem?_eq_getElem (by simpa using hp)]
  simp [hm]
 obtain ⟨c',hw,hι,hlt,hrel⟩:=hr.newObj (.cells (madeCells z.cells (n.toNat*i.size)) e) (.obj e (zeros n.toNat ei.zero)) (fun c' hw hext hI=>by
  refine rep_obj0 hw hI (by rw [hms,zeros_len,hlen]) (fun p hp=>?_) (fun p hp=>?_)
  ·rw [hms] at hp
   rw [hget p hp]
   have hz0:0<z.cells.size:=by rw [hzs];exact Nat.pos_of_ne_zero fun e=>by rw [e] at hp;simp at hp
   exact hz1 _ (by rw [←hzs];exact Nat.mod_lt p hz0)
  ·rw [zeros_len] at hp
   rw [zeros_get _ _ _ hp,hget p (by rw [←hlen];exact hp),←hlen]
   have hz0:0<ei.zero.length:=Nat.pos_of_ne_zero fun e=>by rw [e] at hp;simp at hp
   have hm:=Nat.mod_lt p hz0
   rw [hzl] at hm ⊢
   simp only [List.length_map] at hm
   rw [getD_toList_map _ _ (by simpa using hm)]
   exact rep_ofVal _ _)
 obtain ⟨o1,hrel⟩:=hrel
 refine ⟨c',.slice (some ⟨c.w.heap.size,0,none⟩) n.toNat n.toNat,?_,hrel.fly1 (by rw [←hι];exact .osl _ _ _ _ _ hlt (Nat.le_refl _) (by omega) ⟨madeCells z.cells (n.toNat*i.size),e,(0,0),by rw [hι,hw];exact heap_alloc_new _ _,by rw [hms,←_hsz];omega⟩),fun _ _ h=>by cases h⟩
 rw [hw]
 simp [execOp,ho,ex,ey,hrun]
theorem RelO.obj {fr:Fr} {q:Q} {a:Act} {c:Cx} {us:List LV} {vs:List Value} {ow:Ow} (hr:RelO fr q a c us vs ow) {id:Nat} {mk:List LV→LV} {ty:TypeId} {xs:List LV} (hm:MkO mk ty) (hS:q.S.getD id .any=mk xs) :
  id<q.S.length∧∃cur os,ow (.sto id)=c.ι id::flatO xs.length os∧xs.length≤cur.size∧c.w.heap[c.ι id]? = some (.cells cur ty (0,0))∧(∀p,¬ c.I (c.ι id) p) ∧
   (∀p,p<cur.size→(cur.getD p undef).oneCell'=true)∧(∀i,i<xs.length→Rep c (xs.getD i .any) (cur.getD i undef) (os i))∧(mk = .obj ty→cur.size=xs.length):=by
 have hid:=getD_lt hS (hm.ne xs)
 have h:=hr.sto.r id hid
 rw [hS,hm.oval] at h
 exact ⟨hid,hm.inv h⟩
theorem getD_mapDup (xs:List LV) (i:Nat):(xs.map dupL).getD i .any=dupL (xs.getD i .any):=getD_map (f:=Lm.dupL) xs i rfl
theorem ldO_some {t:TI} {xs:List LV} {p:Nat} {K:LV→Option R} {r:R} (h:ldO t xs p K=some r):∃y,K y=some r∧p+t.lk.length≤xs.length ∧
  ((isAggK t.kd=true∧∃l,y = .agg l∧l.length=t.lk.length∧∀{c:Cx} (f:Nat→Value),(∀j,j<t.lk.length→Rep c (dupL (xs.getD (p+j) .any)) (f j) [])→∀j,j<t.lk.length→Rep c (l.getD j .any) (f j) []) ∨
   (isAggK t.kd=false∧t.lk.length=1∧∀{c:Cx} {w:Value},Rep c (dupL (xs.getD p .any)) w []→Rep c y w [])):=by
 unfold ldO at h
 split at h
 ·rename_i hk
  rcases ifB_some h with ⟨h1,h⟩|⟨_,h⟩
  ·obtain ⟨l,hK,hll,hl⟩:=decL_some _ _ _ _ _ h
   exact ⟨_,hK,Nat.le_of_ble_eq_true h1,.inl ⟨hk,l,rfl,hll,fun f hf=>hl f (fun j hj=>by rw [getD_mapDup];exact hf j hj)⟩⟩
  ·cases h
 ·rename_i hk
  split at h
  ·rename_i l hl
   unfold ldL at h
   rcases ifB_some h with ⟨h1,h⟩|⟨_,h⟩
   ·obtain ⟨y,hK,hy⟩:=dec_some h
    have:=Nat.le_of_ble_eq_true h1
    exact ⟨y,hK,by rw [hl];simp;omega,.inr ⟨hk,by rw [hl];rfl,hy⟩⟩
   ·cases h
  ·cases h
theorem ok_load_obj {o:Oper} {q:Q} {t:TypeId} {ti:TI} {x:Operand} {id p:Nat} {mk:List LV→LV} {ty:TypeId} {xs:List LV} (hm:MkO mk ty) (ho:o.op = .load t x) (ht:tiOf P t=some ti) (hx:ev q.E x = .ptr id p) (hS:q.S.getD id .any=mk xs)
  {K:LV→Option R} {r:R} (h:ldO ti xs p K=some r):∃y,K y=some r∧OpOk P q o y none q:=by
 obtain ⟨i,d,hi,hd,hkd,hlk,_⟩:=tiOf_und ht
 obtain ⟨y,hK,hle,hy⟩:=ldO_some h
 refine ⟨y,hK,op_pure fun fr a c hr=>?_⟩
 obtain ⟨O,r⟩:=hr.evr x
 rw [hx] at r
 generalize hv:a.eval x=z at r
 cases r with
 |ptr _ _ hid =>
  obtain ⟨ow,hr⟩:=hr
  obtain ⟨hid,cur,_,_,hs,hh,hI,h1,hrep,hex⟩:=hr.obj hm hS
  have hcell:∀j,j<xs.length→c.w.cell? ⟨c.ι id,j,none⟩=some (cur.getD j undef):=fun j hj=>by
   have:j<cur.size:=Nat.lt_of_lt_of_le hj hs
   simp [World.cell?,hh,this,Array.getD_eq_getD_getElem?]
  rcases hy with ⟨hk,l,rfl,hll,hl⟩|⟨hk,hl1,hl⟩
  ·refine ⟨.agg ((List.range i.size).map fun j=>cur.getD (p+j) undef).toArray,?_,?_⟩
   ·have:=run_loadAt_agg (P:=P) (w:=c.w) hi hd (by rw [←hkd];exact hk) ⟨c.ι id,p,none⟩ (fun j=>cur.getD (p+j) undef) (fun j hj=>by
     have hj':j<ti.lk.length:=by rw [hlk];exact hj
     rw [Addr.add_lit];exact hcell (p+j) (by omega))
    simp [execOp,ho,hv,this]
   ·refine .agg _ _ (by simp [hll,hlk]) (fun j hj=>?_)
    rw [hll] at hj
    rw [getD_range_map _ (by rw [←hlk];exact hj)]
    exact hl (fun j=>cur.getD (p+j) undef) (fun j hj=>(hrep (p+j) (by omega)).dupL) j hj
  ·refine ⟨cur.getD p undef,?_,hl (hrep p (by omega)).dupL⟩
   have:=run_loadAt_leaf (P:=P) (w:=c.w) hd (by rw [←hkd];exact hk) ⟨c.ι id,p,none⟩ _ (hcell p (by omega))
   simp [execOp,ho,hv,this]
theorem ok_take {o:Oper} {q:Q} {t:TypeId} {ti:TI} {x:Operand} {id p:Nat} {mk:List LV→LV} {ty:TypeId} {xs ys:List LV} (hm:MkO mk ty) (ho:o.op = .load t x) (ht:tiOf P t=some ti) (hk:ti.kd = .slice) (hx:ev q.E x = .ptr id p) (hS:q.S.getD id .any=mk xs)
  (hy:xs.getD p .any = .own ti.el ti.esz ys∨(xs.getD p .any = .nilsl∧ys=[])):OpOk P q o (.own ti.el ti.esz ys) none { q with S:=q.S.set id (mk (xs.set p (.sl ti.esz ys))) }:=by
 obtain ⟨i,d,hi,hd,hkd,hlk,_⟩:=tiOf_und ht
 have hp:p<xs.length:=by
  rcases Nat.lt_or_ge p xs.length with h1|h1
  ·exact h1
  ·rw [List.getD_eq_getElem?_getD,List.getElem?_eq_none h1] at hy;simp at hy
 refine op_val fun fr a c hr=>?_
 obtain ⟨O,r⟩:=hr.evr x
 rw [hx] at r
 generalize hv:a.eval x=z at r
 cases r with
 |ptr _ _ hid =>
  obtain ⟨ow,hr⟩:=hr
  obtain ⟨hid,cur,os,hO,hs,hh,hI,h1,hrep,hex⟩:=hr.obj hm hS
  have hcell:c.w.cell? ⟨c.ι id,p,none⟩=some (cur.getD p undef):=by
   have:p<cur.size:=Nat.lt_of_lt_of_le hp hs
   simp [World.cell?,hh,this,Array.getD_eq_getD_getElem?]
  have hrp:=hrep p hp
  have hown:Rep c (.own ti.el ti.esz ys) (cur.getD p undef) (os p):=by
   rcases hy with hy|⟨hy,rfl⟩
   ·rw [hy] at hrp;exact hrp
   ·rw [hy] at hrp
    generalize hz:cur.getD p undef=v at hrp
    generalize hO':os p=O' at hrp
    cases hrp
    exact .own0 _ _
  have hnd:=hr.sep.nd (.sto id)
  rw [hO] at hnd
  obtain ⟨hg,hnd⟩:=List.nodup_cons.1 hnd
  obtain ⟨n1,n2⟩:=flatO_nd hnd
  let os':Nat→List Nat:=fun j=>if j=p then [] else os j
  have hsub:∀g,g∈flatO xs.length os'→g∈flatO xs.length os∧g∉os p:=fun g hg=>by
   obtain ⟨j,hj,hgj⟩:=flatO_mem.1 hg
   by_cases e:j=p
   ·simp [os',e] at hgj
   ·simp only [os',e,if_false] at hgj
    exact ⟨flatO_mem.2 ⟨j,hj,hgj⟩,n2 j p g hj hp e hgj⟩
  have hsubp:∀g,g∈os p→g∈flatO xs.length os:=fun g hg=>flatO_mem.2 ⟨p,hp,hg⟩
  let o':Ow:=upd (upd ow (.arg 0) (os p)) (.sto id) (c.ι id::flatO xs.length os')
  have hsup:∀k g,g∈o' k→(k = .arg 0∧g∈os p∧g∈ow (.sto id))∨(k = .sto id∧g∈ow (.sto id)∧g∉os p)∨(k≠.arg 0∧k≠.sto id∧g∈ow k):=fun k g hg=>by
   simp only [o',upd] at hg
   split at hg
   ·rename_i hk
    refine .inr (.inl ⟨hk,?_,?_⟩)
    ·rw [hO];rcases List.mem_cons.1 hg with rfl|hg
     ·simp
     ·exact List.mem_cons_of_mem _ (hsub g hg).1
    ·rcases List.mem_cons.1 hg with rfl|hg
     ·intro h;exact absurd (hsubp _ h) ‹_›
     ·exact (hsub g hg).2
   ·rename_i hk
    split at hg
    ·rename_i hk';exact .inl ⟨hk',hg,by rw [hO];exact List.mem_cons_of_mem _ (hsubp g hg)⟩
    ·rename_i hk';exact .inr (.inr ⟨hk',hk,hg⟩)
  refine ⟨c,cur.getD p undef,?_,⟨o',hr.len,hr.alen,fun t' ht'=>?_,hr.al,⟨by simpa using hr.sto.n,fun id' hid'=>?_,hr.sto.bd⟩,fun j hj=>?_,rfl,⟨fun k=>?_,fun k k' g hne hg1 hg2=>?_⟩,hr.ext,fun k g hg1=>?_,hr.df⟩,fun _ _ h=>by cases h⟩
  ·have:=run_loadAt_leaf (P:=P) (w:=c.w) hd (by rw [←hkd,hk];rfl) ⟨c.ι id,p,none⟩ _ hcell
   simp [execOp,ho,hv,this]
  ·simp only [o'];rw [upd_other _ _ (by simp),upd_other _ _ (by simp)];exact hr.env t' ht'
  ·have hid'':id'<q.S.length:=by simpa using hid'
   by_cases e1:id'=id
   ·subst e1
    show Rep c ((q.S.set id' _).getD id' .any) (oval ((q.S.set id' _).getD id' .any) _) _
    rw [getD_set_self _ _ _ hid'']
    simp only [o',upd_same,hm.oval]
    have:=MkO.mk (c:=c) (xs:=xs.set p (.sl ti.esz ys)) (g:=c.ι id') (cur:=cur) (os:=os') hm (by simpa using hs) (fun e=>by simpa using hex e) hh hI h1 (fun j hj=>by
     have hj':j<xs.length:=by simpa using hj
     by_cases e2:j=p
     ·subst e2
      rw [getD_set_self _ _ _ hj']
      simp only [os',if_true]
      exact hown.dup
     ·rw [getD_set_other _ _ e2]
      simp only [os',e2,if_false]
      exact hrep j hj')
    simpa using this
   ·show Rep c ((q.S.set id _).getD id' .any) (oval ((q.S.set id _).getD id' .any) _) _
    rw [getD_set_other _ _ e1]
    simp only [o']
    rw [upd_other _ _ (by simp [e1]),upd_other _ _ (by simp)]
    exact hr.sto.r id' hid''
  ·have:j=0:=by simp at hj;exact hj
   subst this
   simp only [o']
   rw [upd_other _ _ (by simp),upd_same]
   exact hown
  ·simp only [o',upd]
   split
   ·refine List.nodup_cons.2 ⟨fun h=>?_,flatO_nd_mk (fun j hj=>by simp only [os'];split;exact List.nodup_nil;exact n1 j hj) (fun j k g hj hk hne hgj hgk=>?_)⟩
    ·exact hg (hsub _ h).1
    ·simp only [os'] at hgj hgk
     split at hgj
     ·simp at hgj
     ·split at hgk
      ·simp at hgk
      ·exact n2 j k g hj hk hne hgj hgk
   ·split
    ·exact n1 p hp
    ·exact hr.sep.nd k
  ·rcases hsup k g hg1 with ⟨rfl,h2,h2'⟩|⟨rfl,h2,h2'⟩|⟨h2,h2',h2''⟩<;>rcases hsup k' g hg2 with ⟨rfl,h3,h3'⟩|⟨rfl,h3,h3'⟩|⟨h3,h3',h3''⟩
   ·exact hne rfl
   ·exact h3' h2
   ·exact hr.sep.dj (.sto id) k' g (Ne.symm h3') h2' h3''
   ·exact h2' h3
   ·exact hne rfl
   ·exact hr.sep.dj (.sto id) k' g (Ne.symm h3') h2 h3''
   ·exact hr.sep.dj k (.sto id) g h2' h2'' h3'
   ·exact hr.sep.dj k (.sto id) g h2' h2'' h3
   ·exact hr.sep.dj k k' g hne h2'' h3''
  ·rcases hsup k g hg1 with ⟨rfl,h2,h2'⟩|⟨rfl,h2,h2'⟩|⟨h2,h2',h2''⟩
   ·exact hr.own _ g h2'
   ·exact hr.own _ g h2
   ·exact hr.own _ g h2''
theorem RelO.land {fr:Fr} {q:Q} {a:Act} {c:Cx} {vs:List LV} {us:List Value} {ow:Ow} (hr:RelO fr q a c vs us ow) {id p:Nat} {mk:List LV→LV} {ty:TypeId} {xs:List LV} (hm:MkO mk ty) (hS:q.S.getD id .any=mk xs) (hle:p+vs.length≤xs.length)
  (h1:∀u,u∈us→u.oneCell'=true) {cells:List Value} (hcells:cells=us) :
  ∃w',(storeCells ⟨c.ι id,p,none⟩ cells).run P c.w = .ok () w'∧Rel fr { q with S:=q.S.set id (mk (setFrom xs p vs)) } a { c with w:=w' }:=by
 subst hcells
 obtain ⟨hid,cur,os,hO,hs,hh,hI,ho1,hrep,hex⟩:=hr.obj hm hS
 have hl:=hr.flyl
 have hst:=run_storeCells_at P (c.ι id) p ty cells 0 cur c.w hh (by omega) h1
 simp only [Nat.add_zero] at hst
 generalize hnew:(List.take p cur.toList++cells++List.drop (p+cells.length) cur.toList).toArray=new at hst
 have hnews:new.size=cur.size:=by subst hnew;simp;omega
 have hnget:∀j,new.getD j undef=if p≤j∧j<p+vs.length then cells.getD (j-p) undef else cur.getD j undef:=fun j=>by
  subst hnew
  rw [getD_splice _ _ _ _ (by simp;omega),hl]
  congr 1
  simp [List.getD_eq_getElem?_getD,Array.getD_eq_getD_getElem?]
 have hother:∀b,b≠c.ι id→(c.w.setRow (c.ι id) new).heap[b]? = c.w.heap[b]?:=fun b hb=>setRow_other c.w (c.ι id) b new hb
 have hsize:(c.w.setRow (c.ι id) new).heap.size=c.w.heap.size:=by simp [World.setRow]
 have hext:Ext c { c with w:=c.w.setRow (c.ι id) new } (fun b=>b=c.ι id):=⟨Nat.le_refl _,fun _ _=>rfl,fun _ _ h=>h,fun b o hb=>World.cell?_of_block (w:=c.w) (hother b (fun e=>by subst e;exact hI o hb)),by show _≤(c.w.setRow _ new).heap.size;omega,
  fun b _ hb=>hother b hb,fun _ _ _ _ h=>h,(fun b _ _ _ hb h=>by subst hb;rw [hh] at h;cases h;exact ⟨new,_,setRow_heap c.w _ cur new _ (0,0) hh,hnews⟩),rfl,rfl,rfl⟩
 have hnd:=hr.sep.nd (.sto id)
 rw [hO] at hnd
 obtain ⟨hg,hnd⟩:=List.nodup_cons.1 hnd
 obtain ⟨n1,n2⟩:=flatO_nd hnd
 let os':Nat→List Nat:=fun j=>if p≤j∧j<p+vs.length then ow (.arg (j-p)) else os j
 have hsub:∀j g,j<xs.length→g∈os' j→(p≤j∧j<p+vs.length∧g∈ow (.arg (j-p)))∨(¬ (p≤j∧j<p+vs.length)∧g∈os j∧g∈ow (.sto id)):=fun j g hj hg=>by
  simp only [os'] at hg
  split at hg
  ·rename_i h;exact .inl ⟨h.1,h.2,hg⟩
  ·rename_i h;exact .inr ⟨h,hg,by rw [hO];exact List.mem_cons_of_mem _ (flatO_mem.2 ⟨j,hj,hg⟩)⟩
 have hgs:c.ι id∈ow (.sto id):=by rw [hO];simp
 let o':Ow:=fun k=>match k with
  | .env t=>ow (.env t)
  | .sto id'=>if id'=id then c.ι id::flatO xs.length os' else ow (.sto id')
  | .arg _=>[]
 have hsup:∀k g,g∈o' k→(k = .sto id∧(g∈ow (.sto id)∨∃i,g∈ow (.arg i)))∨(k≠.sto id∧(∀i,k≠.arg i)∧g∈ow k):=fun k g hg=>by
  cases k with
  |env t=>exact .inr ⟨by simp,by simp,hg⟩
  |arg i=>simp [o'] at hg
  |sto id' =>
   simp only [o'] at hg
   split at hg
   ·rename_i e1
    subst e1
    refine .inl ⟨rfl,?_⟩
    rcases List.mem_cons.1 hg with rfl|hg
    ·exact .inl hgs
    ·obtain ⟨j,hj,hgj⟩:=flatO_mem.1 hg
     rcases hsub j g hj hgj with ⟨_,_,h⟩|⟨_,_,h⟩
     ·exact .inr ⟨_,h⟩
     ·exact .inl h
   ·rename_i e1;exact .inr ⟨by simpa using e1,by simp,hg⟩
 refine ⟨c.w.setRow (c.ι id) new,hst,o',hr.len,hr.alen,fun t ht=>?_,hr.al,⟨by simpa using hr.sto.n,fun id' hid'=>?_,fun b p hb=>by show b<(c.w.setRow _ new).heap.size;rw [hsize];exact hr.sto.bd b p hb⟩,fun i hi=>absurd hi (by simp),rfl,⟨fun k=>?_,fun k k' g hne hg1 hg2=>?_⟩,?_,fun k g hg1=>?_,hr.df⟩
 ·exact (hr.env t ht).ext hext (fun b hb e=>by subst e;exact hr.sep.dj (.env t) (.sto id) _ (by simp) hb hgs)
 ·have hid'':id'<q.S.length:=by simpa using hid'
  by_cases e1:id'=id
  ·subst e1
   show Rep _ ((q.S.set id' _).getD id' .any) (oval ((q.S.set id' _).getD id' .any) _) _
   rw [getD_set_self _ _ _ hid'']
   simp only [o',if_true,hm.oval]
   have:=MkO.mk (c:={ c with w:=c.w.setRow (c.ι id') new }) (xs:=setFrom xs p vs) (g:=c.ι id') (cur:=new) (os:=os') hm (by rw [hnews,setFrom_len];exact hs) (fun e=>by rw [hnews,setFrom_len];exact hex e) (setRow_heap c.w (c.ι id') cur new ty (0,0) hh) hI (fun j hj=>?_) (fun j hj=>?_)
   ·rw [setFrom_len] at this;exact this
   ·rw [hnget]
    split
    ·rename_i h
     refine h1 _ ?_
     have:j-p<cells.length:=by omega
     rw [List.getD_eq_getElem?_getD,List.getElem?_eq_getElem this]
     exact List.getElem_mem this
    ·exact ho1 j (by omega)
   ·rw [setFrom_len] at hj
    rw [setFrom_get _ _ _ _ hj,hnget]
    simp only [os']
    split
    ·rename_i h
     refine (hr.fly (j-p) (by omega)).ext hext (fun b hb e=>?_)
     subst e
     exact hr.sep.dj (.arg (j-p)) (.sto id') _ (by simp) hb hgs
    ·rename_i h
     refine (hrep j hj).ext hext (fun b hb e=>?_)
     subst e
     exact hg (flatO_mem.2 ⟨j,hj,hb⟩)
  ·show Rep _ ((q.S.set id _).getD id' .any) (oval ((q.S.set id _).getD id' .any) _) _
   rw [getD_set_other _ _ e1]
   simp only [o',e1,if_false]
   exact (hr.sto.r id' hid'').ext hext (fun b hb e=>by subst e;exact hr.sep.dj (.sto id') (.sto id) _ (by simpa using e1) hb hgs)
 ·cases k with
  |env t=>exact hr.sep.nd _
  |arg i=>exact List.nodup_nil
  |sto id' =>
   simp only [o']
   split
   ·refine List.nodup_cons.2 ⟨fun h=>?_,flatO_nd_mk (fun j hj=>?_) (fun j k g hj hk hne hgj hgk=>?_)⟩
    ·obtain ⟨j,hj,hgj⟩:=flatO_mem.1 h
     rcases hsub j _ hj hgj with ⟨_,_,h⟩|⟨_,h,_⟩
     ·exact hr.sep.dj (.arg (j-p)) (.sto id) _ (by simp) h hgs
     ·exact hg (flatO_mem.2 ⟨j,hj,h⟩)
    ·simp only [os'];split;exact hr.sep.nd _;exact n1 j hj
    ·rcases hsub j g hj hgj with ⟨a1,a2,a3⟩|⟨a1,a2,a3⟩<;>rcases hsub k g hk hgk with ⟨b1,b2,b3⟩|⟨b1,b2,b3⟩
     ·exact hr.sep.dj (.arg (j-p)) (.arg (k-p)) g (by simp;omega) a3 b3
     ·exact hr.sep.dj (.arg (j-p)) (.sto id) g (by simp) a3 b3
     ·exact hr.sep.dj (.arg (k-p)) (.sto id) g (by simp) b3 a3
     ·exact n2 j k g hj hk hne a2 b2
   ·exact hr.sep.nd _
 ·rcases hsup k g hg1 with ⟨rfl,h2⟩|⟨h2,h2',h2''⟩<;>rcases hsup k' g hg2 with ⟨rfl,h3⟩|⟨h3,h3',h3''⟩
  ·exact hne rfl
  ·rcases h2 with h2|⟨i,h2⟩
   ·exact hr.sep.dj (.sto id) k' g (Ne.symm h3) h2 h3''
   ·exact hr.sep.dj (.arg i) k' g (fun e=>h3' i e.symm) h2 h3''
  ·rcases h3 with h3|⟨i,h3⟩
   ·exact hr.sep.dj (.sto id) k g (Ne.symm h2) h3 h2''
   ·exact hr.sep.dj (.arg i) k g (fun e=>h2' i e.symm) h3 h2''
  ·exact hr.sep.dj k k' g hne h2'' h3''
 ·refine hr.ext.trans hext (fun b hb hm=>?_)
  subst hm
  rcases (hr.own (.sto id) _ hgs).2 with h2|h2
  ·exact h2
  ·omega
 ·show g<(c.w.setRow _ new).heap.size∧_
  rw [hsize]
  rcases hsup k g hg1 with ⟨rfl,h2|⟨i,h2⟩⟩|⟨_,_,h2⟩
  ·exact hr.own _ g h2
  ·exact hr.own _ g h2
  ·exact hr.own _ g h2
theorem RelO.flyL {fr:Fr} {q:Q} {a:Act} {c:Cx}:∀(vs:List LV) (us:List Value) {xs:List LV} {ws:List Value} {ow:Ow},RelO fr q a c xs ws ow→us.length=vs.length→(∀i,i<vs.length→Rep c (vs.getD i .any) (us.getD i undef) []) →
  ∃ow',RelO fr q a c (xs++vs) (ws++us) ow'
 |[],us,xs,ws,ow,hr,hl,_=>⟨ow,by
  have:us=[]:=List.eq_nil_of_length_eq_zero hl
  subst this
  simpa using hr⟩
 |v::vs,[],xs,ws,ow,hr,hl,_=>by simp at hl
 |v::vs,u::us,xs,ws,ow,hr,hl,h=>by
  obtain ⟨o1,h1⟩:=hr.fly1 (x:=v) (v:=u) (by simpa using h 0 (by simp))
  obtain ⟨o2,h2⟩:=RelO.flyL vs us h1 (by simpa using hl) (fun i hi=>by simpa using h (i+1) (by simpa using hi))
  exact ⟨o2,by simpa using h2⟩
theorem ok_store_obj {o:Oper} {q:Q} {t:TypeId} {ti:TI} {x y:Operand} {id p:Nat} {mk:List LV→LV} {ty:TypeId} {xs:List LV} (hm:MkO mk ty) (ho:o.op = .store t x y) (ht:tiOf P t=some ti) (hx:ev q.E x = .ptr id p) (hS:q.S.getD id .any=mk xs)
  (hlen:(cellsOf (dup (ev q.E y))).length=ti.lk.length) (h1:(cellsOf (dup (ev q.E y))).all one=true) (hle:p+(cellsOf (dup (ev q.E y))).length≤xs.length) :
  OpOk P q o .any none { q with S:=q.S.set id (mk (setFrom xs p (cellsOf (dup (ev q.E y))))) }:=by
 obtain ⟨i,d,hi,hd,hkd,hlk,_⟩:=tiOf_und ht
 refine op_skip fun fr a c hr=>?_
 obtain ⟨O,r⟩:=hr.evr x
 rw [hx] at r
 generalize hv:a.eval x=z at r
 cases r with
 |ptr _ _ hid =>
  obtain ⟨ow,hr⟩:=hr
  obtain ⟨hys,hyr,hy1⟩:=rep_cells (hr.evd y) h1
  obtain ⟨o1,h2⟩:=hr.flyL (cellsOf (dup (ev q.E y))) (a.eval y).cells.toList (by simpa using hys) (fun i hi=>by simpa [List.getD_eq_getElem?_getD,Array.getD_eq_getD_getElem?] using hyr i hi)
  simp only [List.nil_append] at h2
  obtain ⟨w',hst,hrel⟩:=h2.land (P:=P) hm hS hle (fun u hu=>by
   obtain ⟨j,hj,rfl⟩:=List.mem_iff_getElem.1 hu
   have:=hy1 j (by simpa using hj)
   simpa [Array.getD_eq_getD_getElem?,show j<(a.eval y).cells.size from by simpa using hj] using this) rfl
  refine ⟨_,?_,hrel⟩
  have hsz:(a.eval y).cells.size=i.size:=by rw [hys,hlen,hlk]
  simp [execOp,ho,Instr.storeAt,Instr.sureAddr,storeVar,hv,sizeOf,typeInfo,hi,hsz,hst]
theorem ok_store_own {o:Oper} {q:Q} {t:TypeId} {ti:TI} {x y:Operand} {id p e z:Nat} {mk:List LV→LV} {ty:TypeId} {xs ys:List LV} (hm:MkO mk ty) (ho:o.op = .store t x y) (ht:tiOf P t=some ti) (hl1:ti.lk.length=1) (hx:ev q.E x = .ptr id p) (hS:q.S.getD id .any=mk xs)
  (hy:ev q.E y = .own e z ys) (hle:p+1≤xs.length):OpOk P q o .any none { (q.used y) with S:=q.S.set id (mk (setFrom xs p [.own e z ys])) }:=by
 obtain ⟨i,d,hi,hd,hkd,hlk,_⟩:=tiOf_und ht
 refine op_skip fun fr a c hr=>?_
 obtain ⟨O,r⟩:=hr.evr x
 rw [hx] at r
 generalize hv:a.eval x=zz at r
 cases r with
 |ptr _ _ hid =>
  obtain ⟨ow,hr⟩:=hr
  obtain ⟨Oy,ry⟩:=hr.evo y
  obtain ⟨o1,h2⟩:=hr.take y
  simp only [List.nil_append] at h2
  rw [hy] at h2 ry
  have hone:=ry.one rfl
  have hqS:(q.used y).S=q.S:=by cases y<;>rfl
  obtain ⟨w',hst,hrel⟩:=h2.land (P:=P) (id:=id) (p:=p) (xs:=xs) hm (by rw [hqS];exact hS) hle (fun u hu=>by
   have:u=a.eval y:=by simpa using hu
   subst this;exact hone) rfl
  refine ⟨_,?_,by rw [hqS] at hrel;exact hrel⟩
  have hcells:(a.eval y).cells = #[a.eval y]:=by
   generalize a.eval y=u at *
   cases u<;>simp [Value.oneCell'] at hone<;>rfl
  have hst:(storeCells ⟨c.ι id,p,none⟩ (a.eval y).cells.toList).run P c.w = .ok () w':=by rw [hcells];simpa using hst
  have hsz:(a.eval y).cells.size=i.size:=by rw [hcells,←hlk,hl1];rfl
  simp [execOp,ho,Instr.storeAt,Instr.sureAddr,storeVar,hv,sizeOf,typeInfo,hi,hsz,hst]
theorem ok_indexAddr_osl {o:Oper} {q:Q} {t e:TypeId} {i:TypeInfo} {x ix:Operand} {id p z n:Nat} {m:Int} (ho:o.op = .indexAddr t x ix) (hd:P.underlying t=some (.slice e)) (he:P.info? e=some i) (hsz:i.size=z)
  (hx:ev q.E x = .osl id p z n) {ki:IntKind} (hi:ev q.E ix = .int ki m) (h0:0≤m) (h1:m<n):OpOk P q o (.ptr id (p+m.toNat*z)) none q :=
 op_pure fun fr a c hr=>by
  obtain ⟨O,r⟩:=hr.evr x
  rw [hx] at r
  generalize hv:a.eval x=zz at r
  cases r with
  |oslX _ _ o' _ _ cap hid hcap hmax ho' =>
   have ep:o'=p:=by rcases ho' with h|h;exact h;omega
   subst ep
   refine ⟨.pointer (some ⟨c.ι id,o'+m.toNat*z,none⟩),?_,.ptr id _ hid⟩
   subst hsz
   simp [execOp,ho,Instr.indexAt,hr.evInt hi,asIntOf,run_underlying hd,hv,h0,h1,sizeOf,typeInfo,he,Addr.add_lit]
theorem ok_lenOsl {o:Oper} {q:Q} {x:Operand} {ts:Array TypeId} {t e:TypeId} {id p z n:Nat} (ho:o.op = .call { callee:=.builtin .len,args:=#[x],argTypes:=ts })
  (ht:ts[0]? = some t) (hd:P.underlying t=some (.slice e)) (hx:ev q.E x = .osl id p z n):OpOk P q o (.int .i64 n) none q :=
 op_pure fun fr a c hr=>by
  obtain ⟨O,r⟩:=hr.evr x
  rw [hx] at r
  generalize hv:a.eval x=zz at r
  cases r with
  |oslX _ _ _ _ _ cap hid hcap hmax=>exact ⟨_,run_call_builtin ho (by simp [builtin,Builtin.len_,ht,run_underlying hd,hv,goInt]),.int _ _⟩
theorem ok_lenMap {o:Oper} {q:Q} {x:Operand} {ts:Array TypeId} {t k e:TypeId} {id:Nat} {kd:KD} {kvs:List (LV×LV)} (ho:o.op = .call { callee:=.builtin .len,args:=#[x],argTypes:=ts })
  (ht:ts[0]? = some t) (hd:P.underlying t=some (.map k e)) (hx:ev q.E x = .map id) (hS:q.S.getD id .any = .mp kd kvs):OpOk P q o (.int .i64 kvs.length) none q :=
 op_pure fun fr a c hr=>by
  obtain ⟨g,es,clock,ks,e1,_,hh,_,hs,_,_,_,hperm⟩:=mp_rep hr hx hS
  rw [hperm.length_eq] at hs
  refine ⟨.int .i64 kvs.length,run_call_builtin ho ?_,.int _ _⟩
  simp [builtin,Builtin.len_,ht,run_underlying hd,e1,goInt,MapKept.run_getObj_map hh,hs]
end
end Go.Lm
namespace Go.Lm
section
variable {R:Type} {P:Program} {T:Nat→Option TI} {C:Nat→Hd R}
theorem RelO.swap {fr:Fr} {q:Q} {a:Act} {c c':Cx} {ow:Ow} {M:Nat→Prop} (hr:RelO fr q a c [] [] ow) (id g':Nat) (x':LV) (O':List Nat) (hext:Ext c c' M) (hM:∀b,M b→id<q.S.length∧b∈ow (.sto id)) (hn:c'.n=c.n+1) (hι:c'.ι c.n=g')
  (hbd:∀b p,c'.I b p→b<c'.w.heap.size) (hrep:Rep c' x' (oval x' g') O') (hnd:O'.Nodup) (hO:∀g,g∈O'→(id<q.S.length∧g∈ow (.sto id))∨c.w.heap.size≤g) :
  Rel fr { q with S:=q.S.set id .any++[x'] } a c':=by
 let o':Ow:=fun k=>match k with
  | .sto i=>if i=q.S.length then O' else if i=id∨q.S.length<i then [] else ow (.sto i)
  | .env t=>ow (.env t)
  | .arg _=>[]
 have sub:∀k g,g∈o' k→(k = .sto q.S.length∧g∈O')∨(g∈ow k∧k≠.sto id∧(∀i,k≠.arg i)∧k≠.sto q.S.length):=fun k g hg=>by
  cases k with
  |env t=>exact .inr ⟨hg,by simp,by simp,by simp⟩
  |arg i=>simp [o'] at hg
  |sto i =>
   simp only [o'] at hg
   split at hg
   ·rename_i e;subst e;exact .inl ⟨rfl,hg⟩
   ·rename_i e1
    split at hg
    ·simp at hg
    ·rename_i e;exact .inr ⟨hg,by simp;omega,by simp,by simp [e1]⟩
 have hold:∀k g,k≠.sto id→g∈ow k→¬ M g:=fun k g hk hg hm=>hr.sep.dj k (.sto id) g hk hg (hM g hm).2
 have hlen:q.S.length=c.n:=hr.sto.n.symm
 refine ⟨o',hr.len,hr.alen,fun t ht=>(hr.env t ht).ext hext (fun g hg=>hold (.env t) g (by simp) hg),hr.al,⟨by simp [hn,hlen],fun i hi=>?_,hbd⟩,fun i hi=>absurd hi (by simp),rfl,⟨fun k=>?_,fun k k' g hne h1 h2=>?_⟩,?_,fun k g hg=>?_,hr.df⟩
 ·by_cases e:i=q.S.length
  ·subst e
   have e1:(q.S.set id .any++[x']).getD q.S.length .any=x':=by simp [List.getD_eq_getElem?_getD]
   rw [e1,hlen,hι]
   simp only [o',←hlen,if_true]
   exact hrep
  ·have hi':i<q.S.length:=by simp at hi;omega
   have e1:(q.S.set id .any++[x']).getD i .any=(q.S.set id .any).getD i .any:=getD_app_lt _ _ _ _ (by simpa using hi')
   rw [e1]
   by_cases e2:i=id
   ·subst e2
    rw [getD_set_self _ _ _ hi']
    simp only [o',e,if_false,true_or,if_true]
    exact .any _
   ·rw [getD_set_other _ _ e2,hext.ι i (by rw [←hlen];exact hi')]
    have:¬ (i=id∨q.S.length<i):=by omega
    simp only [o',e,this,if_false]
    exact (hr.sto.r i hi').ext hext (fun g hg=>hold (.sto i) g (by simpa using e2) hg)
 ·cases k with
  |env t=>exact hr.sep.nd _
  |arg i=>exact List.nodup_nil
  |sto i =>
   simp only [o']
   split
   ·exact hnd
   ·split
    ·exact List.nodup_nil
    ·exact hr.sep.nd _
 ·have hlt:∀k g,g∈ow k→g<c.w.heap.size:=fun k g hg=>(hr.own k g hg).1
  rcases sub k g h1 with ⟨e1,u1⟩|⟨u1,n1,_,m1⟩<;>rcases sub k' g h2 with ⟨e2,u2⟩|⟨u2,n2,_,m2⟩
  ·exact hne (e1.trans e2.symm)
  ·rcases hO g u1 with ⟨_,h3⟩|h3
   ·exact hr.sep.dj k' (.sto id) g n2 u2 h3
   ·have:=hlt _ _ u2;omega
  ·rcases hO g u2 with ⟨_,h3⟩|h3
   ·exact hr.sep.dj k (.sto id) g n1 u1 h3
   ·have:=hlt _ _ u1;omega
  ·exact hr.sep.dj k k' g hne u1 u2
 ·refine hr.ext.trans hext (fun b hb hm=>?_)
  rcases (hr.own _ b (hM b hm).2).2 with h|h
  ·exact h
  ·omega
 ·have hs:=hext.size
  rcases sub k g hg with ⟨rfl,h1⟩|⟨h1,_,_,_⟩
  ·refine ⟨hrep.lt g h1,?_⟩
   rcases hO g h1 with ⟨_,h3⟩|h3
   ·exact (hr.own _ g h3).2
   ·exact .inr (Nat.le_trans hr.ext.size h3)
  ·exact ⟨Nat.lt_of_lt_of_le (hr.own k g h1).1 hs,(hr.own k g h1).2⟩
theorem flatC_len {z:Nat} (ys:List LV):(flatC z ys).length=ys.length*z:=by
 unfold flatC
 split
 ·rename_i h;rw [Nat.eq_of_beq_eq_true h];simp
 ·induction ys with
  |nil=>simp
  |cons y ys ih=>simp only [List.flatMap_cons,List.length_append,List.length_map,List.length_range,ih,List.length_cons,Nat.add_mul];omega
theorem flatC_get {z:Nat} (hz:0<z):∀(ys:List LV) (p:Nat),p<ys.length*z→(flatC z ys).getD p .any=leaf (ys.getD (p / z) .any) (p % z):=by
 intro ys p hp
 unfold flatC
 split
 ·rename_i h
  have:=Nat.eq_of_beq_eq_true h
  subst this
  have hp':p<ys.length:=by simpa using hp
  simp [List.getD_eq_getElem?_getD,hp',Nat.mod_one]
 ·induction ys generalizing p with
  |nil=>simp at hp
  |cons y ys ih =>
   simp only [List.flatMap_cons]
   rcases Nat.lt_or_ge p z with h|h
   ·rw [getD_app_lt _ _ _ _ (by simpa using h),Nat.div_eq_of_lt h,Nat.mod_eq_of_lt h]
    simp [List.getD_eq_getElem?_getD,h]
   ·rw [getD_app3,if_neg (by simpa using h)]
    simp only [List.length_map,List.length_range]
    rw [ih (p-z) (by simp only [List.length_cons,Nat.add_mul,Nat.one_mul] at hp;omega),Nat.mod_eq_sub_mod h,Nat.div_eq_sub_div hz h]
    rfl
theorem ok_appO {o:Oper} {q:Q} {x y:Operand} {t t' e:TypeId} {i:TypeInfo} {zv:Value} {z id n:Nat} {xs ys:List LV} (ho:o.op = .call { callee:=.builtin .append,args:=#[x,y],argTypes:=#[t,t'] })
  (hd:P.underlying t=some (.slice e)) (hi:P.info? e=some i) (hsz:i.size=z) (hz:i.zero=some zv) (hzs:zv.cells.size=i.size)
  (hzo:∀p,p<zv.cells.size→(zv.cells.getD p undef).oneCell'=true) (hz0:0<z)
  (hx:(∃mk,MkO mk e∧ev q.E x = .osl id 0 z n∧q.S.getD id .any=mk xs∧n*z≤xs.length)∨(ev q.E x = .nilsl∧id=q.S.length∧n=0∧0<ys.length))
  (hy:∀{c:Cx} {w:Value} {O:List Nat},Rep c (ev q.E y) w O→∃news:List Value,Src P z t' w ys.length news c.w∧news.length=ys.length*z∧(∀p,p<ys.length*z→(news.getD p undef).oneCell'=true)∧∀p,p<ys.length*z→Rep c (leaf (ys.getD (p / z) .any) (p % z)) (news.getD p undef) [])
  (hb:(n+ys.length)*i.bytes≤140737488355328) (h63:n+ys.length≤9223372036854775807) :
  OpOk P q o (.osl q.S.length 0 z (n+ys.length)) none { q with S:=q.S.set id .any++[.vec e (xs.take (n*z)++flatC z ys)] }:=by
 refine op_val fun fr a c hr=>?_
 obtain ⟨ow,hr⟩:=hr
 obtain ⟨Oy,ry⟩:=hr.evo y
 obtain ⟨Ox,rx⟩:=hr.evo x
 obtain ⟨news,hsrc,hnl,hn1,hnr⟩:=hy ry
 have hlen:q.S.length=c.n:=hr.sto.n.symm
  
 have hown:∃(base:Option Addr) (cap:Nat) (cur:Array Value) (os:Nat→List Nat),a.eval x = .slice base n cap∧n≤cap∧cap≤9223372036854775807∧cap*z≤cur.size∧n*z≤cur.size∧n*z≤xs.length ∧
   (∀p,p<cur.size→(cur.getD p undef).oneCell'=true)∧(∀p,p<n*z→Rep c (xs.getD p .any) (cur.getD p undef) (os p))∧(flatO (n*z) os).Nodup ∧
   ((base=none∧cap=0∧n=0∧0<ys.length)∨∃g,base=some ⟨g,0,none⟩∧id<q.S.length∧g∈ow (.sto id)∧c.w.heap[g]? = some (.cells cur e (0,0))∧(∀p,¬ c.I g p)∧g∉flatO (n*z) os) ∧
   (∀p b,p<n*z→b∈os p→id<q.S.length∧b∈ow (.sto id)):=by
  rcases hx with ⟨mk,hm,hx,hS,hle⟩|⟨hx,he,hn,hpos⟩
  ·rw [hx] at rx
   generalize hv:a.eval x=v at rx
   cases rx with
   |oslX _ _ o' _ _ cap hid hcap hmax ho' hzz =>
    have ep:o'=0:=by rcases ho' with h|h;exact h;omega
    subst ep
    obtain ⟨hidS,cur,os,hO,hs,hh,hI,ho1,hrep,_⟩:=hr.obj hm hS
    obtain ⟨cur',e',k',h1,h2⟩:=hzz
    rw [hh] at h1
    cases h1
    have hnd:=hr.sep.nd (.sto id)
    rw [hO] at hnd
    obtain ⟨hg,hnd⟩:=List.nodup_cons.1 hnd
    obtain ⟨n1,n2⟩:=flatO_nd hnd
    refine ⟨_,cap,cur,os,rfl,hcap,hmax,by omega,by omega,hle,ho1,fun p hp=>hrep p (by omega),flatO_nd_mk (fun p hp=>n1 p (by omega)) (fun p k g hp hk hne hgp hgk=>n2 p k g (by omega) (by omega) hne hgp hgk),
     .inr ⟨_,rfl,hidS,by rw [hO];simp,hh,hI,fun h=>hg (by obtain ⟨p,hp,hgp⟩:=flatO_mem.1 h;exact flatO_mem.2 ⟨p,by omega,hgp⟩)⟩,fun p b hp hb=>⟨hidS,by rw [hO];exact List.mem_cons_of_mem _ (flatO_mem.2 ⟨p,by omega,hb⟩)⟩⟩
  ·rw [hx] at rx
   generalize hv:a.eval x=v at rx
   cases rx
   subst hn
   exact ⟨none,0,#[],fun _=>[],rfl,by omega,by omega,by simp,by simp,by simp,fun p hp=>by simp at hp,fun p hp=>by simp at hp,by simp [flatO],.inl ⟨rfl,rfl,rfl,hpos⟩,fun p b hp=>by simp at hp⟩
 obtain ⟨base,cap,cur,os,hv,hcap,hmax,hcz,hnz,hxl,ho1,hrep,hnd,hbase,hos⟩:=hown
 rw [←hsz] at hsrc
 have run_it:∀{v:Value} {w':World},(Builtin.append_ #[t,t'] o.type #[a.eval x,a.eval y]).run P c.w = .ok v w'→(execOp a.eval o).run P c.w = .ok (.value v) w':=fun {v w'} h =>
  run_call_builtin ho (by simp [builtin,h])
 let os':Nat→List Nat:=fun p=>if p<n*z then os p else []
 have hL:(xs.take (n*z)++flatC z ys).length=(n+ys.length)*z:=by rw [List.length_append,List.length_take,flatC_len,Nat.add_mul];omega
 have hfl:∀g,g∈flatO (xs.take (n*z)++flatC z ys).length os'→g∈flatO (n*z) os:=fun g hg=>by
  obtain ⟨p,hp,hgp⟩:=flatO_mem.1 hg
  simp only [os'] at hgp
  split at hgp
  ·rename_i h;exact flatO_mem.2 ⟨p,h,hgp⟩
  ·simp at hgp
 have hfn:(flatO (xs.take (n*z)++flatC z ys).length os').Nodup:=by
  obtain ⟨n1,n2⟩:=flatO_nd hnd
  refine flatO_nd_mk (fun p hp=>?_) (fun p k g hp hk hne hgp hgk=>?_)
  ·simp only [os'];split
   ·rename_i h;exact n1 p h
   ·exact List.nodup_nil
  ·simp only [os'] at hgp hgk
   split at hgp
   ·split at hgk
    ·rename_i h1 h2;exact n2 p k g h1 h2 hne hgp hgk
    ·simp at hgk
   ·simp at hgp
 have hget:∀p,p<(n+ys.length)*z→(xs.take (n*z)++flatC z ys).getD p .any=if p<n*z then xs.getD p .any else leaf (ys.getD ((p-n*z) / z) .any) ((p-n*z) % z):=fun p hp=>by
  have hl:(xs.take (n*z)).length=n*z:=by rw [List.length_take];omega
  rw [getD_app3,hl]
  split
  ·rename_i h;simp only [List.getD_eq_getElem?_getD,List.getElem?_take];rw [if_pos h]
  ·rename_i h;rw [flatC_get hz0 _ _ (by rw [Nat.add_mul] at hp;omega)]
  
 by_cases hroom:n+ys.length≤cap
 ·rcases hbase with ⟨_,h0,h1,h2⟩|⟨g,rfl,hidS,hgo,hh,hI,hgf⟩
  ·omega
  have hfit:n*i.size+news.length≤cur.size:=by
   rw [hnl,hsz,←Nat.add_mul]
   exact Nat.le_trans (Nat.mul_le_mul_right _ hroom) hcz
  have hrun:=run_append_room_row (P:=P) (ty:=o.type) hd hi g n cap cur hh (a.eval y) ys.length news hsrc hroom hfit
  generalize hnew:(List.take (n*i.size) cur.toList++news++List.drop (n*i.size+news.length) cur.toList).toArray=new at hrun
  have hnews:new.size=cur.size:=by subst hnew;simp;omega
  have hnget:∀p,new.getD p undef=if n*z≤p∧p<(n+ys.length)*z then news.getD (p-n*z) undef else cur.getD p undef:=fun p=>by
   subst hnew
   rw [getD_splice _ _ _ _ (by simp;omega),hnl,hsz,←Nat.add_mul]
   congr 1
   simp [List.getD_eq_getElem?_getD,Array.getD_eq_getD_getElem?]
  have hother:∀b,b≠g→(c.w.setRow g new).heap[b]? = c.w.heap[b]?:=fun b hb=>setRow_other c.w g b new hb
  have hsize:(c.w.setRow g new).heap.size=c.w.heap.size:=by simp [World.setRow]
  let c':Cx:={ c with w:=c.w.setRow g new,n:=c.n+1,ι:=fun k=>if k=c.n then g else c.ι k }
  have hglt:g<c.w.heap.size:=(Array.getElem?_eq_some_iff.1 hh).1
  have hext:Ext c c' (fun b=>b=g):=⟨Nat.le_succ _,fun k hk=>by show (if k=c.n then _ else _)=_;rw [if_neg (Nat.ne_of_lt hk)],fun _ _ h=>h,
   fun b p hp=>World.cell?_of_block (w:=c.w) (hother b (fun e=>hI p (e▸hp))),by show _≤(c.w.setRow g new).heap.size;omega,
   fun b _ hb=>hother b hb,fun _ _ _ _ h=>h,(fun b _ _ _ hb h=>by subst hb;rw [hh] at h;cases h;exact ⟨new,_,setRow_heap c.w _ cur new _ (0,0) hh,hnews⟩),rfl,rfl,rfl⟩
  have hvec:Rep c' (.vec e (xs.take (n*z)++flatC z ys)) (.pointer (some ⟨g,0,none⟩)) (g::flatO (xs.take (n*z)++flatC z ys).length os'):=by
   refine .vec e _ g new os' (by rw [hL,hnews];exact Nat.le_trans (Nat.mul_le_mul_right _ hroom) hcz) (setRow_heap c.w g cur new e (0,0) hh) hI (fun p hp=>?_) (fun p hp=>?_)
   ·rw [hnget]
    split
    ·rename_i h;exact hn1 _ (by rw [Nat.add_mul] at h;omega)
    ·exact ho1 p (by omega)
   ·rw [hL] at hp
    rw [hget p hp,hnget]
    by_cases h:p<n*z
    ·rw [if_pos h,if_neg (by omega)]
     simp only [os',if_pos h]
     exact (hrep p h).ext hext (fun b hb e=>by subst e;exact hgf (flatO_mem.2 ⟨p,h,hb⟩))
    ·rw [if_neg h,if_pos ⟨by omega,hp⟩]
     simp only [os',if_neg h]
     exact (hnr _ (by rw [Nat.add_mul] at hp;omega)).ext hext (fun g hg=>by simp at hg)
  have hrel:=hr.swap (c':=c') id g (.vec e (xs.take (n*z)++flatC z ys)) _ hext (fun b hb=>⟨hidS,hb▸hgo⟩) rfl (by show (if c.n=c.n then _ else _)=_;simp) (fun b p hp=>by show b<(c.w.setRow g new).heap.size;rw [hsize];exact hr.sto.bd b p hp) hvec
   (List.nodup_cons.2 ⟨fun h=>hgf (hfl g h),hfn⟩) (fun b hb=>by
    rcases List.mem_cons.1 hb with rfl|hb
    ·exact .inl ⟨hidS,hgo⟩
    ·obtain ⟨p,hp,hbp⟩:=flatO_mem.1 (hfl b hb)
     exact .inl (hos p b hp hbp))
  obtain ⟨o1,h1⟩:=hrel
  refine ⟨c',.slice (some ⟨g,0,none⟩) (n+ys.length) cap,run_it (by rw [hv];exact hrun),h1.fly1 ?_,fun _ _ h=>by cases h⟩
  have hι:c'.ι q.S.length=g:=by show (if q.S.length=c.n then _ else _)=_;rw [if_pos hlen]
  have:=Rep.osl (c:=c') q.S.length 0 z (n+ys.length) cap (by show _<c.n+1;omega) hroom hmax ⟨new,e,(0,0),by rw [hι];exact setRow_heap c.w g cur new e (0,0) hh,by rw [hnews];omega⟩
  rw [hι] at this
  exact this
 ·have hfirst:(Builtin.firstCells i.size n (.slice base n cap)).run P c.w.drew = .ok (cur.toList.take (n*z)).toArray c.w.drew:=by
   rcases hbase with ⟨rfl,rfl,rfl,_⟩|⟨g,rfl,_,_,hh,_,_⟩
   ·simp [Builtin.firstCells]
   ·refine run_firstCells_some c.w.drew i.size n _ _ _ _ (by simp [hsz];omega) (fun j v hj=>?_)
    rw [Addr.add_lit]
    rw [List.getElem?_take] at hj
    split at hj
    ·rename_i hjl
     have:j<cur.size:=by omega
     simp [this] at hj
     subst hj
     show c.w.cell? _=_
     simp [World.cell?,hh,this]
    ·cases hj
  have hol:(cur.toList.take (n*z)).length=n*z:=by simp;omega
  have hog:∀p,p<n*z→(cur.toList.take (n*z)).getD p undef=cur.getD p undef:=fun p hp=>by
   simp [List.getD_eq_getElem?_getD,List.getElem?_take,hp,Array.getD_eq_getD_getElem?]
  have hrun:=run_append_grow_src (P:=P) c.w t t' o.type e i zv hd hi hz base n cap _ hfirst (a.eval y) ys.length news hsrc (by omega) (by omega) (growslice_fits (by omega) hb)
  generalize hcells:(((cur.toList.take (n*z))++news).toArray++Builtin.zeroCells zv.cells (grownCap c.w (n+ys.length) cap e-(n+ys.length)))=cells at hrun
  have hge:=grownCap_ge c.w (n+ys.length) cap e
  have hle:grownCap c.w (n+ys.length) cap e≤9223372036854775807:=grownCap_le_maxLen c.w (n+ys.length) cap e (by unfold maxLen;omega)
  generalize hcap':grownCap c.w (n+ys.length) cap e=cap' at *
  have hl2:((cur.toList.take (n*z))++news).length=(n+ys.length)*z:=by rw [List.length_append,hol,hnl,Nat.add_mul]
  have hsize:cells.size=cap'*z:=by
   subst hcells
   simp only [Array.size_append,List.size_toArray,hl2,size_zeroCells,hzs,hsz,←Nat.add_mul]
   congr 1;omega
  have hcget:∀p,p<(n+ys.length)*z→cells.getD p undef=if p<n*z then cur.getD p undef else news.getD (p-n*z) undef:=fun p hp=>by
   subst hcells
   simp only [Array.getD_eq_getD_getElem?]
   rw [Array.getElem?_append_left (by simpa [hl2] using hp)]
   simp only [List.getElem?_toArray]
   split
   ·rename_i h
    rw [List.getElem?_append_left (by omega)]
    have:=hog p h
    simp only [List.getD_eq_getElem?_getD,Array.getD_eq_getD_getElem?] at this
    exact this
   ·rename_i h
    rw [List.getElem?_append_right (by omega),hol]
    simp [List.getD_eq_getElem?_getD]
  have hall:∀p,p<cells.size→(cells.getD p undef).oneCell'=true:=fun p hp=>by
   by_cases h:p<(n+ys.length)*z
   ·rw [hcget p h]
    split
    ·rename_i h2;exact ho1 p (by omega)
    ·rename_i h2;exact hn1 _ (by rw [Nat.add_mul] at h;omega)
   ·subst hcells
    simp only [Array.getD_eq_getD_getElem?]
    rw [Array.getElem?_append_right (by simp [hl2];omega)]
    unfold Builtin.zeroCells
    simp only [List.size_toArray,hl2]
    have hp':p-(n+ys.length)*z<(cap'-(n+ys.length))*zv.cells.size:=by
     simp only [Array.size_append,List.size_toArray,hl2,size_zeroCells] at hp;omega
    have hz1:0<zv.cells.size:=by omega
    have hm:=Nat.mod_lt (p-(n+ys.length)*z) hz1
    have:=hzo _ hm
    simpa [hp',hm,Array.getD_eq_getD_getElem?] using this
  let c':Cx:={ c with w:=c.w.drew.alloc (.cells cells e),n:=c.n+1,ι:=fun k=>if k=c.n then c.w.heap.size else c.ι k }
  have hlt:∀b,b<c.w.heap.size→(c.w.drew.alloc (.cells cells e)).heap[b]? = c.w.heap[b]?:=fun b hb=>by
   show (c.w.heap.push _)[b]? = _
   rw [Array.getElem?_push,if_neg (by omega)]
  have hnewb:(c.w.drew.alloc (.cells cells e)).heap[c.w.heap.size]? = some (.cells cells e (0,0)):=heap_alloc_new c.w.drew _
  have hext:Ext c c' (fun _=>False):=⟨Nat.le_succ _,fun k hk=>by show (if k=c.n then _ else _)=_;rw [if_neg (Nat.ne_of_lt hk)],fun _ _ h=>h,fun b p hp=>World.cell?_of_block (w:=c.w) (hlt b (hr.sto.bd b p hp)),by show _≤(c.w.heap.push _).size;simp,fun b hb _=>hlt b hb,
   fun _ _ _ _ h=>h,(fun _ _ _ _ h _=>False.elim h),rfl,rfl,rfl⟩
  have hvec:Rep c' (.vec e (xs.take (n*z)++flatC z ys)) (.pointer (some ⟨c.w.heap.size,0,none⟩)) (c.w.heap.size::flatO (xs.take (n*z)++flatC z ys).length os'):=by
   refine .vec e _ _ cells os' (by rw [hL,hsize];exact Nat.mul_le_mul_right _ hge) hnewb (fun p hp=>by have:=hr.sto.bd _ _ hp;omega) hall (fun p hp=>?_)
   rw [hL] at hp
   rw [hget p hp,hcget p hp]
   by_cases h:p<n*z
   ·rw [if_pos h,if_pos h]
    simp only [os',if_pos h]
    exact (hrep p h).ext hext (fun b _ e=>e.elim)
   ·rw [if_neg h,if_neg h]
    simp only [os',if_neg h]
    exact (hnr _ (by rw [Nat.add_mul] at hp;omega)).ext hext (fun g hg=>by simp at hg)
  have hold:∀b,b∈flatO (n*z) os→id<q.S.length∧b∈ow (.sto id):=fun b hb=>by
   obtain ⟨p,hp,hbp⟩:=flatO_mem.1 hb
   exact hos p b hp hbp
  have hrel:=hr.swap (c':=c') id c.w.heap.size (.vec e (xs.take (n*z)++flatC z ys)) _ hext (fun b hb=>hb.elim) rfl (by show (if c.n=c.n then _ else _)=_;simp) (fun b p hp=>by show b<(c.w.heap.push _).size;have:=hr.sto.bd b p hp;simp;omega) hvec
   (List.nodup_cons.2 ⟨fun h=>by have:=(hr.own _ _ (hold _ (hfl _ h)).2).1;omega,hfn⟩) (fun b hb=>by
    rcases List.mem_cons.1 hb with rfl|hb
    ·exact .inr (Nat.le_refl _)
    ·exact .inl (hold b (hfl b hb)))
  obtain ⟨o1,h1⟩:=hrel
  refine ⟨c',.slice (some ⟨c.w.heap.size,0,none⟩) (n+ys.length) cap',run_it (by rw [hv];exact hrun),h1.fly1 ?_,fun _ _ h=>by cases h⟩
  have hι:c'.ι q.S.length=c.w.heap.size:=by show (if q.S.length=c.n then _ else _)=_;rw [if_pos hlen]
  have:=Rep.osl (c:=c') q.S.length 0 z (n+ys.length) cap' (by show _<c.n+1;omega) hge hle ⟨cells,e,(0,0),by rw [hι];exact hnewb,by rw [hsize];omega⟩
  rw [hι] at this
  exact this
theorem ok_buildO {o:Oper} {q:Q} {t e:TypeId} {ps:Array (Nat×Operand)} {i:TypeInfo} {sz:Nat} (ho:o.op = .buildSlice t 0 ps) (hps:ps.toList=[]) (hd:P.underlying t=some (.slice e)) (hi:P.info? e=some i) :
  OpOk P q o (.osl q.S.length 0 sz 0) none { q with S:=q.S++[.obj e []] }:=by
 refine op_val fun fr a c hr=>?_
 obtain ⟨ow,hr⟩:=hr
 have hp:ps = #[]:=Array.ext' (by simpa using hps)
 subst hp
 obtain ⟨c',hw,hι,hlt,hrel⟩:=hr.newObj (.cells #[] e) (.obj e []) (fun c' hw hext hI =>
  rep_obj0 hw hI rfl (fun p hp=>by simp at hp) (fun p hp=>by simp at hp))
 obtain ⟨o1,hrel⟩:=hrel
 refine ⟨c',.slice (some ⟨c.w.heap.size,0,none⟩) 0 0,?_,hrel.fly1 (by rw [←hι];exact .osl _ _ _ _ _ hlt (Nat.le_refl _) (by omega) ⟨#[],e,(0,0),by rw [hι,hw];exact heap_alloc_new _ _,by simp⟩),fun _ _ h=>by cases h⟩
 rw [hw]
 have e0:(Array.map (fun _=>(default:Value)) (Array.range 0)) = #[]:=by simp
 simp [execOp,ho,Instr.buildSlice,run_underlying hd,sizeOf,typeInfo,hi,Instr.fill,newRow,e0]
 try rfl
theorem ok_moveDup {o:Oper} {q:Q} {x:Operand} (ho:o.op = .move x):OpOk P q o (dup (ev q.E x)) none q :=
 op_pure fun fr a c hr=>⟨a.eval x,by simp [execOp,ho],hr.evd x⟩
theorem ok_moveSl {o:Oper} {q:Q} {x:Operand} {z:Nat} {xs:List LV} (ho:o.op = .move x) (hx:∀{c:Cx} {w:Value} {O:List Nat},Rep c (ev q.E x) w O→Rep c (.sl z xs) w []):OpOk P q o (.sl z xs) none q :=
 op_pure fun fr a c hr=>by
  obtain ⟨O,r⟩:=hr.evr x
  exact ⟨a.eval x,by simp [execOp,ho],hx r⟩
theorem ok_slO {o:Oper} {q:Q} {t e:TypeId} {i:TypeInfo} {x hi:Operand} {z id p n:Nat} {k:IntKind} {m:Int} (ho:o.op = .slice t x none (some hi) none) (hd:P.underlying t=some (.slice e)) (he:P.info? e=some i)
  (hx:ev q.E x = .osl id p z n) (hh:ev q.E hi = .int k m) (h0:0≤m) (h1:m≤n):OpOk P q o (.osl id p z m.toNat) none q :=
 op_pure fun fr a c hr=>by
  obtain ⟨O,r⟩:=hr.evr x
  rw [hx] at r
  generalize hv:a.eval x=zz at r
  cases r with
  |oslX _ _ o' _ _ cap hid hcap hmax ho' hz =>
   have hb:=run_bounds (P:=P) hr true n cap none (some hi) 0 m rfl ⟨k,hh⟩ (Int.le_refl _) h0 h1 hcap
   refine ⟨.slice (some ⟨c.ι id,o',none⟩) m.toNat cap,?_,.oslX id p o' z m.toNat cap hid (by omega) hmax ho' hz⟩
   have e1:(⟨c.ι id,o',none⟩:Addr).add 0=⟨c.ι id,o',none⟩:=by rw [Addr.add_lit,Nat.add_zero]
   simp only [Option.map_none,Option.map_some] at hb
   simp [execOp,ho,Instr.sliceAt,Instr.slice,run_underlying hd,hv,hb,sizeOf,typeInfo,he,e1]
theorem ok_slLH {o:Oper} {q:Q} {t e:TypeId} {i:TypeInfo} {x lo:Operand} {hi:Option Operand} {z id p n:Nat} {k:IntKind} {l h:Int} (ho:o.op = .slice t x (some lo) hi none) (hd:P.underlying t=some (.slice e)) (he:P.info? e=some i) (hsz:i.size=z) (hz0:0<z)
  (hx:ev q.E x = .osl id p z n) (hl:ev q.E lo = .int k l) (hh:optInt q.E hi n h) (h0:0≤l) (h1:l≤h) (h2:h≤n):OpOk P q o (.osl id (p+l.toNat*z) z (h.toNat-l.toNat)) none q :=
 op_pure fun fr a c hr=>by
  obtain ⟨O,r⟩:=hr.evr x
  rw [hx] at r
  generalize hv:a.eval x=zz at r
  cases r with
  |oslX _ _ o' _ _ cap hid hcap hmax ho' hz =>
   obtain ⟨cur,ty,kk,hz1,hz2⟩:=hz
   have hb:=run_bounds (P:=P) hr true n cap (some lo) hi l h ⟨k,hl⟩ hh h0 h1 h2 hcap
   simp only [Option.map_some] at hb
   subst hsz
   by_cases e1:cap=l.toNat
   ·refine ⟨.slice (some ⟨c.ι id,o',none⟩) (h.toNat-l.toNat) (cap-l.toNat),?_,.oslX id _ o' _ _ (cap-l.toNat) hid (by omega) (by omega) ?_ ⟨cur,ty,kk,hz1,?_⟩⟩
    ·simp [execOp,ho,Instr.sliceAt,Instr.slice,run_underlying hd,hv,hb,sizeOf,typeInfo,he]
     intro h;exact absurd e1 h
    ·rcases Nat.eq_zero_or_pos l.toNat with h3|h3
     ·rw [h3,Nat.zero_mul,Nat.add_zero]
      rcases ho' with h4|h4
      ·exact .inl h4
      ·exact .inr ⟨by omega,h4.2⟩
     ·have:=Nat.mul_pos h3 hz0
      exact .inr ⟨by omega,by omega⟩
    ·have:cap-l.toNat=0:=by omega
     rw [this,Nat.zero_mul];omega
   ·have ep:o'=p:=by
     rcases ho' with h4|h4
     ·exact h4
     ·omega
    subst ep
    refine ⟨.slice (some ⟨c.ι id,o'+l.toNat*i.size,none⟩) (h.toNat-l.toNat) (cap-l.toNat),?_,.osl id _ _ _ (cap-l.toNat) hid (by omega) (by omega) ⟨cur,ty,kk,hz1,?_⟩⟩
    ·simp [execOp,ho,Instr.sliceAt,Instr.slice,run_underlying hd,hv,hb,sizeOf,typeInfo,he,e1,Addr.add_lit]
    ·have:(cap-l.toNat)*i.size+l.toNat*i.size=cap*i.size:=by rw [←Nat.add_mul];congr 1;omega
     omega
theorem ok_copy {o:Oper} {q:Q} {x y:Operand} {t t' e:TypeId} {i:TypeInfo} {id p n:Nat} {mk:List LV→LV} {ty:TypeId} {xs ys:List LV} (ho:o.op = .call { callee:=.builtin .copy,args:=#[x,y],argTypes:=#[t,t'] })
  (hd:P.underlying t=some (.slice e)) (hi:P.info? e=some i) (hsz:i.size=1) (hx:ev q.E x = .osl id p 1 n) (hm:MkO mk ty) (hS:q.S.getD id .any=mk xs)
  (hy:∀{c:Cx} {w:Value} {O:List Nat},Rep c (ev q.E y) w O→∃news:List Value,Src P 1 t' w ys.length news c.w∧news.length=ys.length*1∧(∀p,p<ys.length*1→(news.getD p undef).oneCell'=true)∧∀p,p<ys.length*1→Rep c (leaf (ys.getD (p / 1) .any) (p % 1)) (news.getD p undef) [])
  (hle:ys.length≤n) (hfit:p+(flatC 1 ys).length≤xs.length):OpOk P q o (.int .i64 ys.length) none { q with S:=q.S.set id (mk (setFrom xs p (flatC 1 ys))) }:=by
 refine op_val fun fr a c hr=>?_
 obtain ⟨ow,hr⟩:=hr
 obtain ⟨Oy,ry⟩:=hr.evo y
 obtain ⟨Ox,rx⟩:=hr.evo x
 obtain ⟨news,hsrc,hnl,hn1,hnr⟩:=hy ry
 have hfl:(flatC 1 ys).length=ys.length*1:=flatC_len ys
 obtain ⟨o1,h2⟩:=hr.flyL (flatC 1 ys) news (by omega) (fun j hj=>by rw [flatC_get (by omega) _ _ (by omega)];exact hnr j (by omega))
 simp only [List.nil_append] at h2
 obtain ⟨w',hst,hrel⟩:=h2.land (P:=P) hm hS hfit (fun u hu=>hsrc.one u hu) rfl
 rw [hx] at rx
 generalize hv:a.eval x=v at rx
 cases rx with
 |oslX _ _ o' _ _ cap hid hcap hmax ho' hz =>
  have hst':(storeCells ⟨c.ι id,o',none⟩ news).run P c.w = .ok () w':=by
   rcases ho' with h|h
   ·rw [h];exact hst
   ·have:news=[]:=List.eq_nil_of_length_eq_zero (by omega)
    subst this
    simpa [storeCells] using hst
  obtain ⟨ow2,hrel⟩:=hrel
  refine ⟨_,goInt ys.length,run_call_builtin ho ?_,hrel.fly1 (.int _ _),fun _ _ h=>by cases h⟩
  have hmin:Nat.min ys.length n=ys.length:=Nat.min_eq_left hle
  have hc:=hsrc.cells
  simp [builtin,Builtin.copy_,run_underlying hd,hsrc.len,hv,hmin,sizeOf,typeInfo,hi,hsz,hc,hst']
theorem ok_slNil {o:Oper} {q:Q} {t e:TypeId} {i:TypeInfo} {x hi:Operand} {k:IntKind} (ho:o.op = .slice t x none (some hi) none) (hd:P.underlying t=some (.slice e)) (he:P.info? e=some i)
  (hx:ev q.E x = .nilsl) (hh:ev q.E hi = .int k 0):OpOk P q o .nilsl none q :=
 op_pure fun fr a c hr=>by
  obtain ⟨O,r⟩:=hr.evr x
  rw [hx] at r
  generalize hv:a.eval x=zz at r
  cases r
  have hb:=run_bounds (P:=P) hr true 0 0 none (some hi) 0 0 rfl ⟨k,hh⟩ (Int.le_refl _) (Int.le_refl _) (Int.le_refl _) (Nat.le_refl _)
  refine ⟨.slice none 0 0,?_,.nilsl⟩
  simp only [Option.map_none,Option.map_some] at hb
  simp [execOp,ho,Instr.sliceAt,Instr.slice,run_underlying hd,hv,hb,sizeOf,typeInfo,he]
theorem ok_lenNil {o:Oper} {q:Q} {x:Operand} {ts:Array TypeId} {t e:TypeId} (ho:o.op = .call { callee:=.builtin .len,args:=#[x],argTypes:=ts })
  (ht:ts[0]? = some t) (hd:P.underlying t=some (.slice e)) (hx:ev q.E x = .nilsl):OpOk P q o (.int .i64 ((0:Nat):Int)) none q :=
 op_pure fun fr a c hr=>by
  obtain ⟨O,r⟩:=hr.evr x
  rw [hx] at r
  generalize hv:a.eval x=zz at r
  cases r
  exact ⟨_,run_call_builtin ho (by simp [builtin,Builtin.len_,ht,run_underlying hd,hv,goInt]),.int _ _⟩
theorem ok_load_raw {o:Oper} {q:Q} {t:TypeId} {ti:TI} {x:Operand} {id p:Nat} {mk:List LV→LV} {ty:TypeId} {xs:List LV} (hm:MkO mk ty) (ho:o.op = .load t x) (ht:tiOf P t=some ti) (hk:isAggK ti.kd=false) (hx:ev q.E x = .ptr id p) (hS:q.S.getD id .any=mk xs)
  (hp:p<xs.length):OpOk P q o (dupL (xs.getD p .any)) none q:=by
 obtain ⟨i,d,hi,hd,hkd,hlk,_⟩:=tiOf_und ht
 refine op_pure fun fr a c hr=>?_
 obtain ⟨O,r⟩:=hr.evr x
 rw [hx] at r
 generalize hv:a.eval x=z at r
 cases r with
 |ptr _ _ hid =>
  obtain ⟨ow,hr⟩:=hr
  obtain ⟨hid,cur,_,_,hs,hh,hI,h1,hrep,_⟩:=hr.obj hm hS
  refine ⟨cur.getD p undef,?_,(hrep p hp).dupL⟩
  have hc:c.w.cell? ⟨c.ι id,p,none⟩=some (cur.getD p undef):=by
   have:p<cur.size:=Nat.lt_of_lt_of_le hp hs
   simp [World.cell?,hh,this,Array.getD_eq_getD_getElem?]
  have:=run_loadAt_leaf (P:=P) (w:=c.w) hd (by rw [←hkd];exact hk) ⟨c.ι id,p,none⟩ _ hc
  simp [execOp,ho,hv,this]
end
end Go.Lm
namespace Go.Lm
section
variable {R:Type} {P:Program} {T:Nat→Option TI} {C:Nat→Hd R}
theorem strL_some:∀(xs:List LV) (l:List UInt8),strL xs=some l→∃ns:List Int,xs=ns.map (.int .u8)∧l=ns.map (fun n=>UInt8.ofNat n.toNat)
 |[],l,h=>by simp [strL] at h;exact ⟨[],rfl,by simp [h]⟩
 |x::xs,l,h=>by
  cases x with
  |int k n =>
   cases k<;>simp only [strL] at h<;>try (cases h;done)
   cases hq:strL xs with
   |none=>rw [hq] at h;simp at h
   |some l' =>
    rw [hq] at h
    simp at h
    obtain ⟨ns,rfl,rfl⟩:=strL_some xs l' hq
    exact ⟨n::ns,rfl,by simp [←h]⟩
  |_=>simp [strL] at h
theorem foldl_push:∀(ns:List Int) (s:ByteArray),ns.foldl (fun r n=>r.push (UInt8.ofNat n.toNat)) s=⟨s.data++(ns.map fun n=>UInt8.ofNat n.toNat).toArray⟩
 |[],s=>by simp
 |n::ns,s=>by
  rw [List.foldl_cons,foldl_push ns]
  congr 1
  apply Array.ext'
  simp [ByteArray.push]
theorem ok_convBytes {o:Oper} {q:Q} {s t e:TypeId} {x:Operand} {xs:List LV} {l:List UInt8} (ho:o.op = .convert s t x) (hs:P.underlying s=some (.slice e)) (he:P.underlying e=some (.int .u8)) (ht:P.underlying t=some .string)
  (hx:∀{c:Cx} {w:Value} {O:List Nat},Rep c (ev q.E x) w O→Rep c (.sl 1 xs) w []) (hl:strL xs=some l):OpOk P q o (.str ⟨l.toArray⟩) none q :=
 op_pure fun fr a c hr=>by
  obtain ⟨O,r⟩:=hr.evr x
  obtain ⟨A,cap,hv,hcap,hmax,hcells⟩:=rep_sl (hx r)
  obtain ⟨ns,rfl,rfl⟩:=strL_some _ _ hl
  refine ⟨.string ⟨(ns.map fun n=>UInt8.ofNat n.toNat).toArray⟩,?_,.str _⟩
  have hconv:(Conv.bytesToString (a.eval x)).run P c.w = .ok (.string ⟨(ns.map fun n=>UInt8.ofNat n.toNat).toArray⟩) c.w:=by
   have hempty:(⟨#[]⟩:ByteArray)=ByteArray.empty:=rfl
   rw [hv]
   rcases Nat.eq_zero_or_pos ns.length with h0|h0
   ·have:ns=[]:=List.eq_nil_of_length_eq_zero h0
    subst this
    cases A with
    |none=>simp [Conv.bytesToString,hempty]
    |some ad=>exact run_bytesToString c.w ad 0 cap [] (by simp [loadCells,loadCellsFrom])
   ·obtain ⟨b,off,cv,rfl,hc,hI,h1,hr1⟩:=hcells (by simpa using h0)
    have h2:=run_bytesToString (P:=P) c.w ⟨b,off,none⟩ ns.length cap ns (by
     have:=run_loadCells (P:=P) c.w ⟨b,off,none⟩ ns.length cv (fun j hj=>by rw [Addr.add_lit];exact hc j (by simpa using hj))
     rw [this]
     congr 2
     apply List.ext_getElem?
     intro j
     by_cases hj:j<ns.length
     ·have h3:=hr1 j (by simpa using hj)
      have h4:leaf (((ns.map (LV.int .u8)).getD (j / 1) .any)) (j % 1) = .int .u8 ns[j]:=by
       simp [List.getD_eq_getElem?_getD,hj,leaf,Nat.mod_one]
      rw [h4] at h3
      simp [hj,rep_int h3]
     ·simp [hj])
    rw [foldl_push] at h2
    simp only [List.length_map]
    rw [h2]
    simp
  simp [execOp,ho,convert,run_underlying hs,run_underlying ht,run_underlying he,hv]
  rw [hv] at hconv
  simp only [List.length_map] at hconv ⊢
  rw [hconv]
  rfl
theorem rep_bytes {c:Cx} {s:ByteArray} {b off cap:Nat} (hcap:s.size≤cap) (hmx:s.size≤9223372036854775807) (hc:∀p,p<s.size→c.w.cell? ⟨b,off+p,none⟩=some (.int .u8 (s.data.toList.getD p 0).toNat)) (hI:∀p,p<s.size→c.I b (off+p)) :
  Rep c (.sl 1 (bytesL s)) (.slice (some ⟨b,off,none⟩) s.size cap) []:=by
 have hl:(bytesL s).length=s.size:=by simp [bytesL]
 have:=Rep.sl (c:=c) 1 b off cap (bytesL s) (fun p=>.int .u8 (s.data.toList.getD p 0).toNat) (by rw [hl];exact hcap) (by rw [hl];exact hmx) (fun p hp=>hc p (by rw [hl] at hp;omega)) (fun p hp=>hI p (by rw [hl] at hp;omega)) (fun p hp=>rfl) (fun p hp=>by
  rw [hl] at hp
  have hp':p<s.size:=by omega
  have:leaf ((bytesL s).getD (p / 1) .any) (p % 1) = .int .u8 (s.data.toList.getD p 0).toNat:=by
   have h2:p<s.data.size:=hp'
   obtain ⟨y,hy⟩:∃y,s.data[p]? = some y:=⟨_,Array.getElem?_eq_getElem h2⟩
   simp [bytesL,List.getD_eq_getElem?_getD,leaf,Nat.mod_one,hy]
  rw [this];exact .int _ _)
 rw [hl] at this
 exact this
theorem ok_toBytes {o:Oper} {q:Q} {s t e:TypeId} {x:Operand} {b:ByteArray} (ho:o.op = .convert s t x) (hs:P.underlying s=some .string) (ht:P.underlying t=some (.slice e)) (he:P.underlying e=some (.int .u8)) (hx:ev q.E x = .str b)
  (hmx:b.size≤9223372036854775807):OpOk P q o (.sl 1 (bytesL b)) none q:=by
 refine op_val fun fr a c hr=>?_
 have hv:=hr.evStr hx
 obtain ⟨ow,hr⟩:=hr
 generalize hcap:grownCap c.w b.size 0 e=cap
 have hge:b.size≤cap:=by rw [←hcap];exact grownCap_ge _ _ _ _
 generalize harr:(b.data.map fun b=>Value.int .u8 b.toNat)++Array.replicate (cap-b.size) (.int .u8 0)=arr
 have hnew:(c.w.drew.alloc (.cells arr e)).heap[c.w.heap.size]? = some (.cells arr e):=heap_alloc_new c.w.drew _
 have hrun:(execOp a.eval o).run P c.w = .ok (.value (.slice (some ⟨c.w.heap.size,0,none⟩) b.size cap)) ((c.w.drew.alloc (.cells arr e)).freeze ⟨c.w.heap.size,arr.size,none⟩ 1):=by
  have hsh:(c.w.drew.alloc (.cells arr e)).shape? c.w.heap.size=some (e,arr.size):=by
   unfold World.shape?
   rw [hnew]
  subst harr
  have hcap':(Question.appendCap b.size 0 e).cut (c.w.tape c.w.drawn (.appendCap b.size 0 e))=cap:=hcap
  simp [execOp,ho,convert,run_underlying hs,run_underlying ht,run_underlying he,hv,Conv.stringToBytes,Question.forced,hcap',newRow,markStringish,hsh]
 have hsame:∀k,k≠c.w.heap.size→((c.w.drew.alloc (.cells arr e)).freeze ⟨c.w.heap.size,arr.size,none⟩ 1).heap[k]? = (c.w.drew.alloc (.cells arr e)).heap[k]?:=fun k hk=>by
  simp [World.freeze,Array.getElem?_modify,Ne.symm hk]
 obtain ⟨c',o',hw,hrel⟩:=hr.fresh' ((c.w.drew.alloc (.cells arr e)).freeze ⟨c.w.heap.size,arr.size,none⟩ 1) (fun k hk=>by
   rw [hsame k (by omega)]
   show (c.w.heap.push _)[k]? = _
   rw [Array.getElem?_push,if_neg (by omega)]) (by
   show ((c.w.drew.alloc (.cells arr e)).freeze ⟨c.w.heap.size,arr.size,none⟩ 1).heap.size=_
   simp [World.freeze]) rfl rfl rfl (fun p=>p<b.size) (x:=.sl 1 (bytesL b)) (v:=.slice (some ⟨c.w.heap.size,0,none⟩) b.size cap)
  (fun c' hw hext hI=>⟨[],.inl rfl,by
   refine rep_bytes hge hmx (fun p hp=>?_) (fun p hp=>by rw [Nat.zero_add];exact (hI p).2 hp)
   have h1:∃fz,c'.w.heap[c.w.heap.size]? = some (.cells arr e fz):=by
    rw [hw]
    simp only [World.freeze,Nat.one_ne_zero,if_false,Array.getElem?_modify,if_true]
    rw [hnew]
    exact ⟨_,rfl⟩
   obtain ⟨fz,h1⟩:=h1
   have h2:p<b.data.size:=hp
   have h3:arr[p]? = some (.int .u8 (b.data.toList.getD p 0).toNat):=by
    subst harr
    rw [Array.getElem?_append_left (by simpa using h2)]
    obtain ⟨y,hy⟩:∃y,b.data[p]? = some y:=⟨_,Array.getElem?_eq_getElem h2⟩
    simp [List.getD_eq_getElem?_getD,hy]
   simp [World.cell?,h1,h3]⟩)
 refine ⟨c',_,?_,⟨o',hrel⟩,fun _ _ h=>by cases h⟩
 rw [hw,hrun]
theorem app_some {b:Nat} {ys xs:List LV} {K:List LV→Option R} {r:R} (h:app b ys xs K=some r):(ys.length+xs.length)*b≤140737488355328∧ys.length+xs.length≤9223372036854775807∧K (ys++xs)=some r:=by
 unfold app at h
 rcases ifB_some h with ⟨h1,h⟩|⟨_,h⟩
 ·have:=of_decide_eq_true h1;exact ⟨this.1,this.2,h⟩
 ·cases h
theorem asOwn_some {e z:Nat} {v:LV} {K:List LV→Option R} {r:R} (h:asOwn e z v K=some r):∃ys,(v = .own e z ys∨(v = .nilsl∧ys=[]))∧K ys=some r:=by
 unfold asOwn at h
 split at h
 ·rcases ifB_some h with ⟨h1,h2⟩|⟨_,h2⟩
  ·rw [Bool.and_eq_true] at h1
   have e1:=Nat.eq_of_beq_eq_true h1.1;have e2:=Nat.eq_of_beq_eq_true h1.2;subst e1;subst e2;exact ⟨_,.inl rfl,h2⟩
  ·cases h2
 ·exact ⟨_,.inr ⟨rfl,rfl⟩,h⟩
 ·cases h
theorem stO_some {xs:List LV} {p:Nat} {cs:List LV} {K:List LV→Option R} {r:R} (h:stO xs p cs K=some r):p+cs.length≤xs.length∧K (setFrom xs p cs)=some r:=by
 unfold stO at h
 rcases ifB_some h with ⟨h1,h⟩|⟨_,h⟩
 ·exact ⟨Nat.le_of_ble_eq_true h1,h⟩
 ·cases h
theorem kdN_inj {kd kd':KD} (h:kdN kd'=kdN kd) (hl:kdN kd<12):kd'=kd:=by
 cases kd<;>cases kd'<;>simp [kdN] at h hl ⊢
 ·rename_i k k'
  exact ikN_inj (by rw [h];exact Nat.beq_refl _)
 all_goals (rename_i k;cases k<;>simp [ikN] at h)
theorem mpAt_some {S:List LV} {id:Nat} {kd:KD} {K:List (LV×LV)→Option R} {r:R} (h:mpAt S id kd K=some r):∃kvs,S.getD id .any = .mp kd kvs∧K kvs=some r:=by
 unfold mpAt at h
 split at h
 ·rename_i kd' kvs hx
  rcases ifB_some h with ⟨h1,h2⟩|⟨_,h2⟩
  ·rw [Bool.and_eq_true] at h1
   have:=kdN_inj (Nat.eq_of_beq_eq_true h1.1) (Nat.le_of_ble_eq_true h1.2)
   subst this
   exact ⟨kvs,hx,h2⟩
  ·cases h2
 ·cases h
theorem keyOk_rigid {kd:KD} {x:LV} (h:keyOk kd x=true):∃v,rigid x=some v:=by
 cases kd<;>cases x<;>simp [keyOk] at h<;>exact ⟨_,rfl⟩
theorem oslOr_some {v:LV} {A:Nat→Nat→Nat→Nat→Option R} {B:Option R} {r:R} (h:oslOr v A B=some r):(∃id p z n,v = .osl id p z n∧A id p z n=some r)∨((∀{R':Type} (A':Nat→Nat→Nat→Nat→Option R') (B':Option R'),oslOr v A' B'=B')∧B=some r):=by
 cases v<;>first|exact .inl ⟨_,_,_,_,rfl,h⟩|exact .inr ⟨fun _ _=>rfl,h⟩
theorem idxN_some {n:Nat} {i:Int} {K:Nat→Option R} {r:R} (h:idxN n i K=some r):0≤i∧i<n∧K i.toNat=some r:=by
 unfold idxN at h
 rcases ifB_some h with ⟨h1,h⟩|⟨_,h⟩
 ·have:=of_decide_eq_true h1;exact ⟨this.1,this.2,h⟩
 ·cases h
theorem srcL_some (hT:∀t ti,T t=some ti→tiOf P t=some ti) {q:Q} {y:Operand} {t':TypeId} {ti':TI} {K:List LV→Option R} {r:R} (hti':T t'=some ti') (z:Nat) (h:srcL ti'.kd ti'.esz z (ev q.E y) K=some r) :
  ∃xs,K xs=some r∧∀{c:Cx} {w:Value} {O:List Nat},Rep c (ev q.E y) w O→∃news:List Value,Src P z t' w xs.length news c.w∧news.length=xs.length*z∧(∀p,p<xs.length*z→(news.getD p undef).oneCell'=true)∧∀p,p<xs.length*z→Rep c (leaf (xs.getD (p / z) .any) (p % z)) (news.getD p undef) []:=by
 unfold srcL at h
 split at h
 ·rename_i e2
  rcases ifB_some h with ⟨e3,h⟩|⟨_,h⟩
  ·obtain ⟨e',j,hd',hj,hsz',_⟩:=tiOf_slice (hT _ _ hti') e2
   have e3:=Nat.eq_of_beq_eq_true e3
   obtain ⟨xs,h,hy⟩:=asSl_some h
   refine ⟨xs,h,fun r=>?_⟩
   have:=src_of (i:=j) hd' (by rw [←hsz',e3]) (hy r)
   rwa [←hsz',e3] at this
  ·cases h
 ·rename_i e2
  rcases ifB_some h with ⟨e3,h⟩|⟨_,h⟩
  ·have e3:=Nat.eq_of_beq_eq_true e3
   obtain ⟨s,hs,h⟩:=asStr_some h
   refine ⟨_,h,fun r=>?_⟩
   rw [e3]
   rw [hs] at r
   obtain ⟨_,d,_,hd2,hk2,_⟩:=tiOf_und (hT _ _ hti')
   rw [e2] at hk2
   obtain rfl:=kdOf_str hk2
   exact src_str hd2 r
  ·cases h
 ·cases h
theorem cellsAt_some {S:List LV} {id:Nat} {K:Nat→List LV→Option R} {r:R} (h:cellsAt S id K=some r):∃mk ty xs,MkO mk ty∧S.getD id .any=mk xs∧K ty xs=some r:=by
 unfold cellsAt at h
 split at h
 ·rename_i ty xs hx;exact ⟨_,ty,xs,.inl rfl,hx,h⟩
 ·rename_i ty xs hx;exact ⟨_,ty,xs,.inr rfl,hx,h⟩
 ·cases h
theorem appO_some {e z bytes:Nat} {S:List LV} {v:LV} {ys:List LV} {K:Nat→Nat→List LV→Option R} {r:R} (h:appO e z bytes S v ys K=some r) :
  ∃id n xs,K S.length (n+ys.length) (S.set id .any++[.vec e (xs.take (n*z)++flatC z ys)])=some r∧0<z∧(n+ys.length)*bytes≤140737488355328∧n+ys.length≤9223372036854775807 ∧
   ((∃mk,MkO mk e∧v = .osl id 0 z n∧S.getD id .any=mk xs∧n*z≤xs.length)∨(v = .nilsl∧id=S.length∧n=0∧0<ys.length)):=by
 unfold appO at h
 split at h
 ·rename_i id p z' n
  obtain ⟨mk,ty,xs,hm,hS,h⟩:=cellsAt_some h
  rcases ifB_some h with ⟨h1,h2⟩|⟨_,h⟩
  ·simp only [Bool.and_eq_true] at h1
   obtain ⟨⟨⟨⟨⟨a1,a2⟩,a3⟩,a4⟩,a5⟩,a6⟩:=h1
   have a1:=Nat.eq_of_beq_eq_true a1
   have a2:=Nat.eq_of_beq_eq_true a2
   have a3:=Nat.eq_of_beq_eq_true a3
   have a6:=of_decide_eq_true a6
   subst a1;subst a2;subst a3
   exact ⟨id,n,xs,h2,Nat.le_of_ble_eq_true a4,a6.1,a6.2,.inl ⟨mk,hm,rfl,hS,Nat.le_of_ble_eq_true a5⟩⟩
  ·cases h
 ·rcases ifB_some h with ⟨h1,h⟩|⟨_,h⟩
  ·simp only [Bool.and_eq_true] at h1
   obtain ⟨⟨a1,a2⟩,a3⟩:=h1
   have a3:=of_decide_eq_true a3
   refine ⟨S.length,0,[],?_,Nat.le_of_ble_eq_true a1,a3.1,a3.2,.inr ⟨rfl,rfl,rfl,Nat.le_of_ble_eq_true a2⟩⟩
   have e1:S.set S.length .any=S:=List.set_eq_of_length_le (Nat.le_refl _)
   rw [e1,Nat.zero_mul,List.take_zero,List.nil_append,Nat.zero_add]
   exact h
  ·cases h
 ·cases h
theorem lop_ok (hT:∀t ti,T t=some ti→tiOf P t=some ti) (hC:∀f,HSound P f (C f)) (o:Oper) (q:Q) (K:LV→Option (Nat×Nat)→Q→Option R) (r:R)
  (h:lop T C o q K=some r):∃x al q',K x al q'=some r∧OpOk P q o x al q':=by
 have hund:∀{t ti},T t=some ti→∃d,P.underlying t=some d∧ti.kd=kdOf d:=fun h=>by
  obtain ⟨i,d,_,hd,hk,_⟩:=tiOf_und (hT _ _ h)
  exact ⟨d,hd,hk⟩
 unfold lop at h
 split at h
 ·rename_i x ho
  split at h
  ·exact ⟨_,_,_,h,ok_move' ho⟩
  ·split at h
   ·exact ⟨_,_,_,h,ok_moveDup ho⟩
   ·obtain ⟨xs,h,hx⟩:=asSl_some h
    exact ⟨_,_,_,h,ok_moveSl ho hx⟩
 ·rename_i x ho;exact ⟨_,_,_,h,ok_assign ho⟩
 ·rename_i cc x y ho
  obtain ⟨b,hb,h⟩:=asBool_some h
  rcases ifB_some h with ⟨rfl,h⟩|⟨rfl,h⟩
  ·exact ⟨_,_,_,h,ok_pick ho hb⟩
  ·exact ⟨_,_,_,h,ok_pick ho hb⟩
 ·rename_i e ho
  split at h
  ·rename_i ti ht
   split at h
   ·exact ⟨_,_,_,h,ok_alloc ho (hT _ _ ht)⟩
   ·exact ⟨_,_,_,h,ok_allocS ho (hT _ _ ht)⟩
  ·cases h
 ·rename_i e x ho
  split at h
  ·rename_i ti ht
   split at h
   ·rename_i hb
    rw [Bool.and_eq_true] at hb
    split at h
    ·exact ⟨_,_,_,h,ok_box ho (hT _ _ ht) hb.2⟩
    ·exact ⟨_,_,_,h,ok_boxS ho hb.2⟩
   ·cases h
  ·cases h
 ·rename_i t ho
  split at h
  ·rename_i ti ht
   split at h
   ·exact ⟨_,_,_,h,ok_makeMap ho⟩
   ·cases h
  ·cases h
 ·rename_i t x y ho
  split at h
  ·rename_i ti ht
   split at h
   ·rename_i et k n k' m hk het hx hy
    obtain ⟨e,j,hd,hj,hsz,hbt,hel,_⟩:=tiOf_slice (hT _ _ ht) hk
    rcases ifB_some h with ⟨h1,h2⟩|⟨_,h2⟩
    ·have hnm:=of_decide_eq_true h1
     subst hnm
     unfold mkN at h2
     rcases ifB_some h2 with ⟨h3,h4⟩|⟨_,h4⟩
     ·have h3:=of_decide_eq_true h3
      subst hel
      refine ⟨_,_,_,h4,ok_makeSlice ho hd hj (hT _ _ het) hsz.symm hx hy h3.1 (by rw [←hbt];exact h3.2.1) h3.2.2⟩
     ·cases h4
    ·cases h2
   ·cases h
  ·cases h
 ·rename_i f first cs ho
  split at h
  ·rename_i hf
   split at h
   ·rename_i hb;exact ⟨_,_,_,h,ok_makeFunc ho hf hb⟩
   ·cases h
  ·rename_i y l hl
   split at h
   ·rename_i hcs
    rw [←hl] at h
    exact ⟨_,_,_,h,ok_makeFuncM ho hcs⟩
   ·cases h
 ·rename_i x ho
  split at h
  ·obtain ⟨id,p,hx,h⟩:=asPtr_some h
   exact ⟨_,_,_,h,ok_nilCheck ho hx fun r=>by cases r;exact ⟨⟨_,rfl⟩,rfl⟩⟩
  split at h
  ·rename_i p ha;exact ⟨_,_,_,h,ok_nilCheck_own ho ha⟩
  ·split at h
   ·rename_i id p hx;exact ⟨_,_,_,h,ok_nilCheck ho hx fun r=>by cases r;exact ⟨⟨_,rfl⟩,rfl⟩⟩
   ·rename_i v n p hx;exact ⟨_,_,_,h,ok_nilCheck ho hx fun r=>by cases r;exact ⟨⟨_,rfl⟩,rfl⟩⟩
   ·cases h
 ·rename_i t m k ok ho
  split at h
  ·rename_i ti ht
   split at h
   ·rename_i kt et hk hkt het
    obtain ⟨id,hm,h⟩:=asMap_some h
    obtain ⟨kvs,hS,h⟩:=mpAt_some h
    split at h
    ·rename_i hko
     obtain ⟨kv,hkv⟩:=keyOk_rigid hko
     obtain ⟨y,h,hy⟩:=decT_some h
     exact ⟨_,_,_,h,ok_lookup ho (hT _ _ ht) hk (hT _ _ hkt) (hT _ _ het) hm hS rfl hko hkv y hy⟩
    ·cases h
   ·cases h
  ·cases h
 ·rename_i t m k y ho
  split at h
  ·rename_i ti ht
   split at h
   ·rename_i kt hk hkt
    obtain ⟨id,hm,h⟩:=asMap_some h
    obtain ⟨kvs,hS,h⟩:=mpAt_some h
    split at h
    ·rename_i hko
     obtain ⟨kv,hkv⟩:=keyOk_rigid hko
     exact ⟨_,_,_,h,ok_mapUpdate ho (hT _ _ ht) hk (hT _ _ hkt) hm (getD_lt hS (by simp)) hS rfl hko hkv⟩
    ·cases h
   ·cases h
  ·cases h
 ·rename_i t ps ho
  split at h
  ·rename_i ti ht
   split at h
   ·rename_i hk
    split at h
    ·rename_i z hz;exact ⟨_,_,_,h,ok_build ho (hT _ _ ht) hk hz⟩
    ·cases h
   ·cases h
  ·cases h
 ·rename_i t len ps ho
  split at h
  ·rename_i ti ht
   split at h
   ·rename_i hk
    split at h
    ·split at h
     ·rename_i hps
      obtain ⟨e,j,hd,hj,_,_,hel,_⟩:=tiOf_slice (hT _ _ ht) hk
      subst hel
      exact ⟨_,_,_,h,ok_buildO ho hps hd hj⟩
     ·cases h
    split at h
    ·rename_i hb
     simp only [Bool.and_eq_true] at hb
     obtain ⟨e,j,hd,hj,hsz,_,hel,z,hz,hzs,hzo⟩:=tiOf_slice (hT _ _ ht) hk
     subst hel
     have hle:=Nat.le_of_ble_eq_true hb.1.1.2
     have hle2:=Nat.le_of_ble_eq_true hb.1.2
     refine ⟨_,_,_,h,ok_buildSlice ho hd hj hsz.symm hz hzs hzo hb.1.1.1.1 (Nat.eq_of_beq_eq_true hb.1.1.1.2) hle (by omega) (fun p hp=>?_)⟩
     have:=List.all_eq_true.1 hb.2 p hp
     rw [Bool.and_eq_true] at this
     exact ⟨Nat.eq_of_beq_eq_true this.1,this.2⟩
    ·cases h
   ·cases h
  ·cases h
 ·rename_i t x ho
  split at h
  ·rename_i ti ht
   split at h
   ·obtain ⟨id,p,hx,h⟩:=asPtr_some h
    obtain ⟨mk,ty,xs,hmk,hS,h⟩:=objAt_some h
    split at h
    ·split at h
     ·rename_i hb
      rw [Bool.and_eq_true] at hb
      unfold ldRaw at h
      rcases ifB_some h with ⟨h1,h⟩|⟨_,h⟩
      ·exact ⟨_,_,_,h,ok_load_raw hmk ho (hT _ _ ht) (by simpa using hb.2) hx hS (Nat.le_of_ble_eq_true h1)⟩
      ·cases h
     ·cases h
    split at h
    ·rename_i hk
     obtain ⟨ys,hy,h⟩:=asOwn_some h
     exact ⟨_,_,_,h,ok_take hmk ho (hT _ _ ht) hk hx hS hy⟩
    ·cases h
    ·obtain ⟨y,h,hy⟩:=ok_load_obj hmk ho (hT _ _ ht) hx hS h
     split at h
     ·obtain ⟨i,p',hv,h⟩:=asPtr_some h
      subst hv
      exact ⟨_,_,_,h,hy⟩
     ·obtain ⟨i,hv,h⟩:=asMap_some h
      subst hv
      exact ⟨_,_,_,h,hy⟩
     ·cases h
     ·exact ⟨_,_,_,h,hy⟩
   split at h
   ·rename_i d p ha
    split at h
    ·rename_i hb
     simp only [Bool.and_eq_true,Bool.or_eq_true] at hb
     refine ⟨_,_,_,h,ok_load_own ho (hT _ _ ht) ha (Nat.le_of_ble_eq_true hb.1.1) (Nat.le_of_ble_eq_true hb.1.2) (fun hk=>?_)⟩
     rcases hb.2 with h1|h1
     ·rw [hk] at h1;cases h1
     ·exact Nat.eq_of_beq_eq_true h1
    ·cases h
   ·split at h
    ·rename_i v n p hx
     obtain ⟨y,h,hy⟩:=ok_load_cptr ho (hT _ _ ht) hx h
     exact ⟨_,_,_,h,hy⟩
    ·cases h
  ·cases h
 ·rename_i t x y ho
  split at h
  ·unfold storeD at h
   split at h
   ·rename_i ti d ht
    split at h
    ·rename_i xs hA hE
     split at h
     ·rename_i hb
      simp only [Bool.and_eq_true] at hb
      have ha:q.addr (.tmp d)=some (d,0):=by simp only [Q.addr,hA,hE]
      have hbx:boxAt q.E d=xs:=by simp only [boxAt,hE]
      rw [←hbx] at h hb
      exact ⟨_,_,_,h,ok_store ho (hT _ _ ht) ha (Nat.le_of_ble_eq_true hb.1.1.1) (Nat.le_of_ble_eq_true hb.1.1.2) (Nat.eq_of_beq_eq_true hb.1.2) hb.2⟩
     ·cases h
    ·cases h
   ·cases h
  split at h
  ·rename_i ti ht
   split at h
   ·obtain ⟨id,p,hx,h⟩:=asPtr_some h
    obtain ⟨mk,ty,xs,hmk,hS,h⟩:=objAt_some h
    split at h
    ·rename_i z ys hy
     split at h
     ·rename_i hl
      obtain ⟨hle,h⟩:=stO_some h
      exact ⟨_,_,_,h,ok_store_own hmk ho (hT _ _ ht) (Nat.eq_of_beq_eq_true hl) hx hS hy hle⟩
     ·cases h
    ·cases h
    ·split at h
     ·rename_i hb
      rw [Bool.and_eq_true] at hb
      obtain ⟨hle,h⟩:=stO_some h
      exact ⟨_,_,_,h,ok_store_obj hmk ho (hT _ _ ht) hx hS (Nat.eq_of_beq_eq_true hb.1) hb.2 hle⟩
     ·cases h
   split at h
   ·rename_i d p ha
    split at h
    ·rename_i hb
     simp only [Bool.and_eq_true] at hb
     exact ⟨_,_,_,h,ok_store ho (hT _ _ ht) ha (Nat.le_of_ble_eq_true hb.1.1.1) (Nat.le_of_ble_eq_true hb.1.1.2) (Nat.eq_of_beq_eq_true hb.1.2) hb.2⟩
    ·cases h
   ·cases h
  ·cases h
 ·rename_i op t x y yt ho
  split at h
  ·rename_i ti ht
   obtain ⟨v,h,hv⟩:=ok_binop ho (hT _ _ ht) h
   exact ⟨_,_,_,h,hv⟩
  ·cases h
 ·rename_i op t x ho
  split at h
  ·obtain ⟨b,hb,h⟩:=asBool_some h
   exact ⟨_,_,_,h,ok_not ho hb⟩
  ·cases h
 ·rename_i s t x ho
  split at h
  ·rename_i si ti hs ht
   obtain ⟨ds,hds,hks⟩:=hund hs
   obtain ⟨dt,hdt,hkt⟩:=hund ht
   split at h
   ·rename_i k1 k2 e1 e2
    rw [e1] at hks;rw [e2] at hkt
    obtain rfl:=kdOf_int hks;obtain rfl:=kdOf_int hkt
    obtain ⟨n,hn,h⟩:=asInt_some h
    exact ⟨_,_,_,h,ok_convInt ho hds hdt hn⟩
   ·rename_i e1 e2
    rw [e1] at hks;rw [e2] at hkt
    obtain rfl:=kdOf_str hks;obtain rfl:=kdOf_str hkt
    obtain ⟨n,hn,h⟩:=asStr_some h
    exact ⟨_,_,_,h,ok_convStr ho hds hdt hn⟩
   ·rename_i e1 e2
    rw [e2] at hkt
    obtain rfl:=kdOf_str hkt
    obtain ⟨e,j,hd,hj,hsz,_,hel,_⟩:=tiOf_slice (hT _ _ hs) e1
    split at h
    ·rename_i he
     obtain ⟨ei,hei,hek⟩:=Option.map_eq_some_iff.1 he
     obtain ⟨de,hde,hke⟩:=hund hei
     rw [hek] at hke
     obtain rfl:=kdOf_int hke
     rw [hel] at hde
     obtain ⟨xs,h,hx⟩:=asSl_some h
     unfold strOf at h
     split at h
     ·rename_i l hl
      exact ⟨_,_,_,h,ok_convBytes ho hd hde hdt hx hl⟩
     ·cases h
    ·cases h
   ·rename_i e1 e2
    rw [e1] at hks
    obtain rfl:=kdOf_str hks
    obtain ⟨e,j,hd,hj,hsz,_,hel,_⟩:=tiOf_slice (hT _ _ ht) e2
    split at h
    ·rename_i he
     obtain ⟨ei,hei,hek⟩:=Option.map_eq_some_iff.1 he
     obtain ⟨de,hde,hke⟩:=hund hei
     rw [hek] at hke
     obtain rfl:=kdOf_int hke
     rw [hel] at hde
     obtain ⟨b,hb,h⟩:=asStr_some h
     rcases ifB_some h with ⟨h1,h⟩|⟨_,h⟩
     ·exact ⟨_,_,_,h,ok_toBytes ho hds hd hde hb (of_decide_eq_true h1)⟩
     ·cases h
    ·cases h
   ·cases h
  ·cases h
 ·rename_i t x lo hi mx ho
  split at h
  ·rename_i ti ht
   obtain ⟨d,hd,hk⟩:=hund ht
   split at h
   ·rename_i e1
    rw [e1] at hk
    obtain rfl:=kdOf_str hk
    obtain ⟨s,hs,h⟩:=asStr_some h
    obtain ⟨l,hl,h⟩:=intOr_some h
    obtain ⟨hh,hhh,h⟩:=intOr_some h
    unfold slStr at h
    rcases ifB_some h with ⟨h1,h⟩|⟨_,h⟩
    ·have h1:=of_decide_eq_true h1
     exact ⟨_,_,_,h,ok_slStr ho hd hs hl hhh h1.1 h1.2.1 h1.2.2⟩
    ·cases h
   ·rename_i e1
    obtain ⟨e,j,hd,hj,hsz,_⟩:=tiOf_slice (hT _ _ ht) e1
    split at h
    rotate_left
    ·split at h
     ·rename_i hi
      obtain ⟨k,m,hm,h⟩:=asI_some h
      unfold slO at h
      split at h
      ·rename_i hx
       rcases ifB_some h with ⟨h1,h4⟩|⟨_,h⟩
       ·rw [Bool.and_eq_true] at h1
        have h2:=of_decide_eq_true h1.2
        have h3:=Nat.eq_of_beq_eq_true h1.1
        subst h3
        exact ⟨_,_,_,h4,ok_slO ho hd hj hx hm h2.1 h2.2⟩
       ·cases h
      ·rename_i hx
       rcases ifB_some h with ⟨h1,h⟩|⟨_,h⟩
       ·have h1:=of_decide_eq_true h1
        subst h1
        exact ⟨_,_,_,h,ok_slNil ho hd hj hx hm⟩
       ·cases h
      ·cases h
     ·obtain ⟨k,m,hm,h⟩:=asI_some h
      rcases oslOr_some h with ⟨id,p,z,n,hx,h⟩|⟨_,h⟩
      ·obtain ⟨hh,hhh,h⟩:=intOr_some h
       rcases ifB_some h with ⟨h1,h⟩|⟨_,h⟩
       ·simp only [Bool.and_eq_true] at h1
        have h2:=of_decide_eq_true h1.2
        have h3:=Nat.eq_of_beq_eq_true h1.1.1
        subst h3
        exact ⟨_,_,_,h,ok_slLH ho hd hj hsz.symm (Nat.le_of_ble_eq_true h1.1.2) hx hm hhh h2.1 h2.2.1 h2.2.2⟩
       ·cases h
      ·cases h
     ·cases h
    obtain ⟨xs,h,hx⟩:=asSl_some h
    obtain ⟨l,hl,h⟩:=intOr_some h
    obtain ⟨hh,hhh,h⟩:=intOr_some h
    unfold slL at h
    rcases ifB_some h with ⟨h1,h⟩|⟨_,h⟩
    ·have h1:=of_decide_eq_true h1
     exact ⟨_,_,_,h,ok_slSl ho hd hj hsz.symm hx hl hhh h1.1 h1.2.1 h1.2.2⟩
    ·cases h
   ·cases h
  ·cases h
 ·rename_i t x i ho
  split at h
  ·rename_i ti ht
   split at h
   ·rename_i fo n ft hf
    split at h
    ·rename_i d p ha;exact ⟨_,_,_,h,ok_fieldAddr_own ho (hT _ _ ht) hf ha⟩
    ·split at h
     ·rename_i v n p hx
      split at h
      ·rename_i hb;exact ⟨_,_,_,h,ok_fieldAddr_cptr ho (hT _ _ ht) hf hx (Nat.le_of_ble_eq_true hb)⟩
      ·cases h
     ·rename_i id p hx
      exact ⟨_,_,_,h,ok_fieldAddr_ptr ho (hT _ _ ht) hf hx⟩
     ·cases h
   ·cases h
  ·cases h
 ·rename_i t x i ho
  split at h
  ·rename_i ti ht
   split at h
   ·rename_i fo n ft hf
    split at h
    ·rename_i fti xs hft hx
     split at h
     ·rename_i hb
      simp only [Bool.and_eq_true,Bool.or_eq_true] at hb
      refine ⟨_,_,_,h,ok_field ho (hT _ _ ht) hf (hT _ _ hft) hx (Nat.le_of_ble_eq_true hb.1.1) (Nat.le_of_ble_eq_true hb.1.2) (fun hk=>?_)⟩
      rcases hb.2 with h1|h1
      ·rw [hk] at h1;cases h1
      ·exact Nat.eq_of_beq_eq_true h1
     ·cases h
    ·cases h
   ·cases h
  ·cases h
 ·rename_i t x i ho
  split at h
  ·rename_i ti ht
   split at h
   ·rename_i e1
    obtain ⟨e,j,hd,hj,hsz,_⟩:=tiOf_slice (hT _ _ ht) e1
    rcases oslOr_some h with ⟨id,p,z,n,hx,h⟩|⟨_,h⟩
    ·rcases ifB_some h with ⟨h1,h⟩|⟨_,h⟩
     ·obtain ⟨ki,m,hm,h⟩:=asI_some h
      obtain ⟨h2,h3,h⟩:=idxN_some h
      exact ⟨_,_,_,h,ok_indexAddr_osl ho hd hj (hsz.symm.trans (Nat.eq_of_beq_eq_true h1).symm) hx hm h2 h3⟩
     ·cases h
    ·split at h
     rotate_left
     ·cases h
     obtain ⟨xs,h,hx⟩:=asSl_some h
     obtain ⟨ki,n,hn,h⟩:=asI_some h
     unfold idxL at h
     rcases ifB_some h with ⟨h1,h⟩|⟨_,h⟩
     ·have h1:=of_decide_eq_true h1
      exact ⟨_,_,_,h,ok_indexAddr ho hd hj hsz.symm hx hn h1.1 h1.2⟩
     ·cases h
   ·cases h
  ·cases h
 ·rename_i t x i ho
  split at h
  ·rename_i ti ht
   obtain ⟨d,hd,hk⟩:=hund ht
   split at h
   ·rename_i e1
    rw [e1] at hk
    obtain rfl:=kdOf_str hk
    obtain ⟨s,hs,h⟩:=asStr_some h
    obtain ⟨ki,n,hn,h⟩:=asI_some h
    unfold idxStr at h
    rcases ifB_some h with ⟨h1,h⟩|⟨_,h⟩
    ·have h1:=of_decide_eq_true h1
     exact ⟨_,_,_,h,ok_idxStr ho hd hs hn h1.1 h1.2⟩
    ·cases h
   ·cases h
  ·cases h
 ·rename_i x i ho
  split at h
  ·rename_i t vs hx
   split at h
   ·rename_i hb
    split at h
    ·exact ⟨_,_,_,h,ok_extract ho hx (Nat.le_of_ble_eq_true hb)⟩
    ·exact ⟨_,_,_,h,ok_extract_dup ho hx (Nat.le_of_ble_eq_true hb)⟩
   ·cases h
  ·cases h
 ·rename_i cl ho
  obtain ⟨callee,as,ts⟩:=cl
  simp only at h
  split at h
  ·split at h
   rotate_left
   ·unfold callM at h
    split at h
    ·rename_i t x ht hx
     have hts:ts = #[t]:=Array.ext' (by simpa using ht)
     have has:as = #[x]:=Array.ext' (by simpa using hx)
     subst hts;subst has
     split at h
     ·rename_i ti hti
      split at h
      ·rename_i kt e1 hkt
       obtain ⟨id,hm,h⟩:=asMap_some h
       obtain ⟨kvs,hS,h⟩:=mpAt_some h
       exact ⟨_,_,_,h,ok_lenMap ho rfl (tiOf_map (hT _ _ hti) e1) hm hS⟩
      ·rename_i e1
       obtain ⟨e,j,hd,_⟩:=tiOf_slice (hT _ _ hti) e1
       unfold lenO at h
       split at h
       ·rename_i hx;exact ⟨_,_,_,h,ok_lenOsl ho rfl hd hx⟩
       ·rename_i hx;exact ⟨_,_,_,h,ok_lenNil ho rfl hd hx⟩
       ·cases h
      ·cases h
     ·cases h
    ·rename_i t t' x y ht hx
     have hts:ts = #[t,t']:=Array.ext' (by simpa using ht)
     have has:as = #[x,y]:=Array.ext' (by simpa using hx)
     subst hts;subst has
     split at h
     ·rename_i ti ti' hti hti'
      split at h
      ·rename_i e1
       obtain ⟨e,i,hd,hi,hsz,hby,hel,z,hz,hzs,hzo⟩:=tiOf_slice (hT _ _ hti) e1
       subst hel
       obtain ⟨ys,h,hy⟩:=srcL_some hT hti' ti.esz h
       obtain ⟨id,n,xs,h,hz0,hb1,hb2,hx⟩:=appO_some h
       exact ⟨_,_,_,h,ok_appO ho hd hi hsz.symm hz hzs hzo hz0 hx hy (by rw [←hby];exact hb1) hb2⟩
      ·cases h
     ·cases h
    ·rename_i t t' x y ht hx
     have hts:ts = #[t,t']:=Array.ext' (by simpa using ht)
     have has:as = #[x,y]:=Array.ext' (by simpa using hx)
     subst hts;subst has
     split at h
     ·rename_i ti ti' hti hti'
      split at h
      ·rename_i e1
       obtain ⟨e,i,hd,hi,hsz,hby,hel,z,hz,hzs,hzo⟩:=tiOf_slice (hT _ _ hti) e1
       rcases oslOr_some h with ⟨id,p,z1,n,hx,h⟩|⟨_,h⟩
       ·rcases ifB_some h with ⟨h1,h⟩|⟨_,h⟩
        ·rw [Bool.and_eq_true] at h1
         have e2:=Nat.eq_of_beq_eq_true h1.1
         have e3:=Nat.eq_of_beq_eq_true h1.2
         obtain ⟨ys,h,hy⟩:=srcL_some hT hti' 1 h
         rcases ifB_some h with ⟨h2,h⟩|⟨_,h⟩
         ·obtain ⟨mk,ty,xs,hm,hS,h⟩:=objAt_some h
          obtain ⟨h3,h⟩:=stO_some h
          exact ⟨_,_,_,h,ok_copy ho hd hi (hsz.symm.trans e3) (by rw [hx,e2]) hm hS hy (Nat.le_of_ble_eq_true h2) h3⟩
         ·cases h
        ·cases h
       ·cases h
      ·cases h
     ·cases h
    ·cases h
   unfold callB at h
   split at h
   ·rename_i t x ht hx
    have hts:ts = #[t]:=Array.ext' (by simpa using ht)
    have has:as = #[x]:=Array.ext' (by simpa using hx)
    subst hts;subst has
    split at h
    ·rename_i ti hti
     obtain ⟨d,hd,hk⟩:=hund hti
     split at h
     ·rename_i e1
      rw [e1] at hk
      obtain rfl:=kdOf_str hk
      obtain ⟨s,hs,h⟩:=asStr_some h
      exact ⟨_,_,_,h,ok_lenStr ho rfl hd hs⟩
     ·rename_i e1
      obtain ⟨e,j,hd,_⟩:=tiOf_slice (hT _ _ hti) e1
      rcases oslOr_some h with ⟨id,p,z,n,hx,h⟩|⟨_,h⟩
      ·exact ⟨_,_,_,h,ok_lenOsl ho rfl hd hx⟩
      ·obtain ⟨xs,h,hx⟩:=asSl_some h
       exact ⟨_,_,_,h,ok_lenSl ho rfl hd (fun r=>by
        obtain ⟨A,cap,hv,_⟩:=rep_sl (hx r)
        exact ⟨A,cap,hv⟩)⟩
     ·cases h
    ·cases h
   ·rename_i t t' x y ht hx
    have hts:ts = #[t,t']:=Array.ext' (by simpa using ht)
    have has:as = #[x,y]:=Array.ext' (by simpa using hx)
    subst hts;subst has
    split at h
    ·rename_i ti ti' hti hti'
     split at h
     ·rename_i e1
      obtain ⟨e,i,hd,hi,hsz,hby,hel,z,hz,hzs,hzo⟩:=tiOf_slice (hT _ _ hti) e1
      subst hel
      have src:=fun {K:List LV→Option R} {r:R}=>srcL_some (P:=P) (q:=q) (y:=y) hT (K:=K) (r:=r) hti' ti.esz
      split at h
      ·rename_i zz ys hx
       rcases ifB_some h with ⟨h1,h⟩|⟨_,h⟩
       ·rw [Bool.and_eq_true] at h1
        have h0:=Nat.eq_of_beq_eq_true h1.1
        have h1:=Nat.eq_of_beq_eq_true h1.2
        obtain ⟨xs,h,hy⟩:=src h
        obtain ⟨h2,h3,h⟩:=app_some h
        exact ⟨_,_,_,h,ok_append ho hd hi hsz.symm hz hzs hzo (.inl (by rw [hx,h0,h1])) hy (by rw [←hby];exact h2) h3⟩
       ·cases h
      ·rename_i hx
       obtain ⟨xs,h,hy⟩:=src h
       obtain ⟨h2,h3,h⟩:=app_some h
       exact ⟨_,_,_,h,ok_append ho hd hi hsz.symm hz hzs hzo (.inr ⟨hx,rfl⟩) hy (by rw [←hby];exact h2) h3⟩
      ·cases h
     ·cases h
    ·cases h
   ·rename_i x y hx
    have has:as = #[x,y]:=Array.ext' (by simpa using hx)
    subst has
    split at h
    ·rename_i k a k' b h1 h2
     exact ⟨_,_,_,h,ok_min ho h1 h2⟩
    ·cases h
   ·cases h
  ·obtain ⟨f,cs,hx,h⟩:=asFn_some h
   obtain ⟨hen,v,S',hc,h⟩:=hC (funV f) _ _ _ _ h
   exact ⟨_,_,_,h,ok_call ho hx hen hc⟩
  ·cases h
 ·cases h
end
end Go.Lm
namespace Go.Lm
section
variable {R:Type} {P:Program} {T:Nat→Option TI} {C:Nat→Hd R}
theorem RelO.know {fr:Fr} {q:Q} {a:Act} {c:Cx} {o:Ow} (h:RelO fr q a c [] [] o) (d:Nat) (b:Bool) (hd:q.E.getD d .any = .bool b):RelO fr { q with E:=q.E.set d (.bool b) } a c [] [] o:=by
 have he:q.E.set d (.bool b)=q.E:=by
  rcases Nat.lt_or_ge d q.E.length with h1|h1
  ·have:q.E[d] = .bool b:=by simpa [List.getD_eq_getElem?_getD,h1] using hd
   rw [←this];exact List.set_getElem_self h1
  ·exact List.set_eq_of_length_le h1
 rw [he];exact h
theorem Rel.put {fr:Fr} {q:Q} {a:Act} {c:Cx} {x:LV} {v:Value} (h:RelX fr q a c [x] [v]) (d:Option Tmp)
  (al:Option (Nat×Nat)) (hal:∀e p,al=some (e,p)→e<q.E.length∧∃g,a.tmps.getD e undef = .pointer (some ⟨g,0,none⟩)∧v = .pointer (some ⟨g,p,none⟩)) :
  Rel fr (q.put d x al) (a.put d v) c:=by
 obtain ⟨o,h⟩:=h
 exact h.put d al hal
theorem rep_und {c:Cx} {v:Value} {O:List Nat} (h:Rep c .und v O):v=undef:=by cases h;rfl
theorem wanted_some {ops:Array Oper} {q:Q} {o:Oper} {K:Bool→Q→Option R} {r:R} (h:wanted ops q o K=some r) :
  ∃b q',K b q'=some r∧∀{fr:Fr} {a:Act} {c:Cx},Rel fr q a c→Rel fr q' a c∧Region.wanted o (yielded ops a.tmps)=b:=by
 unfold wanted at h
 unfold Region.wanted
 split at h
 ·rename_i hg
  rw [hg]
  exact ⟨true,q,h,fun hr=>⟨hr,rfl⟩⟩
 ·rename_i j want hg
  rw [hg]
  simp only [setK_eq] at h
  split at h
  ·rename_i d hd
   have rep:∀{fr:Fr} {a:Act} {c:Cx} {x:LV},q.E.getD d .any=x→one x=true∨x = .und→Rel fr q a c→∃O,Rep c x (a.tmps.getD d undef) O:=by
    intro fr a c x hx h1 hr
    obtain ⟨ow,hr⟩:=hr
    by_cases hlt:d<q.E.length
    ·exact ⟨_,hx▸hr.env d hlt⟩
    ·have:x = .any:=by rw [←hx];simp [List.getD_eq_getElem?_getD,List.getElem?_eq_none (Nat.le_of_not_lt hlt)]
     subst this;simp [one] at h1
   split at h
   rotate_left
   ·rename_i hb
    refine ⟨false,q,h,fun {fr a c} hr=>⟨hr,?_⟩⟩
    obtain ⟨O,hrep⟩:=rep hb (.inr rfl) hr
    have hz:a.tmps.getD d undef=undef:=rep_und hrep
    have hy:yielded ops a.tmps j=none:=by
     unfold yielded
     rw [hd]
     rw [Array.getD_eq_getD_getElem?] at hz
     cases hq:a.tmps[d]? with
     |none=>simp [hq]
     |some u=>rw [hq] at hz;simp at hz;simp [hq,hz,undef]
    simp only [hy];cases want<;>rfl
   ·cases h
   rename_i b hb
   have key:∀{fr:Fr} {a:Act} {c:Cx},Rel fr q a c→yielded ops a.tmps j=some b:=by
    intro fr a c hr
    obtain ⟨O,hrep⟩:=rep hb (.inl rfl) hr
    have hv:a.tmps[d]? = some (.bool b):=by
     have hz:=rep_bool hrep
     rw [Array.getD_eq_getD_getElem?] at hz
     cases hq:a.tmps[d]? with
     |none=>rw [hq] at hz;simp [undef] at hz
     |some u=>rw [hq] at hz;simp at hz;rw [hz]
    unfold yielded
    rw [hd]
    simp [hv]
   rcases ifB_some h with ⟨rfl,h⟩|⟨rfl,h⟩
   ·refine ⟨want,_,h,fun hr=>?_⟩
    have hy:=key hr
    obtain ⟨ow,hr⟩:=hr
    refine ⟨⟨ow,hr.know d true hb⟩,?_⟩
    simp only [hy];cases want<;>rfl
   ·refine ⟨!want,_,h,fun hr=>?_⟩
    have hy:=key hr
    obtain ⟨ow,hr⟩:=hr
    refine ⟨⟨ow,hr.know d false hb⟩,?_⟩
    simp only [hy];cases want<;>rfl
  ·cases h
theorem RelO.flyUnd {fr:Fr} {q:Q} {a:Act} {c:Cx} (h:Rel fr q a c):RelX fr q a c [.und] [undef]:=by
 obtain ⟨o,h⟩:=h
 exact h.fly1 .und
theorem runOps_ok (hT:∀t ti,T t=some ti→tiOf P t=some ti) (hC:∀f,HSound P f (C f)) {ops:Array Oper} {K:Q→Option R} {r:R} :
  ∀(os:List Oper) (is:List Nat),os.map some=is.map (ops[·]?)→∀(q:Q),runOps T C ops os q K=some r →
   ∃q',K q'=some r∧∀{fr:Fr} {a:Act} {c:Cx},Rel fr q a c→∀{Qp:Exit→Act→World→Prop},(∀a' c',Rel fr q' a' c'→Qp .normal a' c'.w)→wpOps P ops Qp is a c.w
 |[],[],_,q,h=>⟨q,h,fun hr _ hQ=>hQ _ _ hr⟩
 |[],_::_,he,_,_=>by simp at he
 |_::_,[],he,_,_=>by simp at he
 |o::os,i::is,he,q,h=>by
  simp only [List.map_cons,List.cons.injEq] at he
  have ih:=runOps_ok hT hC (K:=K) (r:=r) os is he.2
  simp only [runOps,Q.putK_eq] at h
  obtain ⟨b,q1,h,hw⟩:=wanted_some h
  cases b with
  |true =>
   simp only at h
   obtain ⟨x,al,q2,h,hop⟩:=lop_ok hT hC o q1 _ r h
   obtain ⟨q',h,hrest⟩:=ih _ h
   refine ⟨q',h,fun {fr a c} hr {Qp} hQ=>?_⟩
   obtain ⟨hr1,hw⟩:=hw hr
   unfold wpOps
   rw [←he.1]
   simp only [hw,if_true]
   exact .inl (hop fr a c hr1 _ _ fun c' v hx hal=>hrest (Rel.put hx o.dst al hal) hQ)
  |false =>
   simp only at h
   obtain ⟨q',h,hrest⟩:=ih _ h
   refine ⟨q',h,fun {fr a c} hr {Qp} hQ=>?_⟩
   obtain ⟨hr1,hw⟩:=hw hr
   unfold wpOps
   rw [←he.1]
   simp only [hw]
   exact hrest (Rel.put (RelO.flyUnd hr1) o.dst none (fun _ _ h=>by cases h)) hQ
theorem Rep.coLeaf {c:Cx} {x:LV} {v:Value} {O:List Nat} (s:LS) (r:Rep c x v O):Rep c (s.co x) v O∨Rep c (s.co x) v []:=by
 cases s<;>cases x<;>try exact .inl r
 ·cases r;exact .inr (.sl0 _ none 0 (fun _=>rfl))
 ·exact .inr r.dup
 ·cases r;exact .inr (by assumption)
 ·cases r;exact .inl (.own0 _ _)
theorem Rep.coLeaf' {c:Cx} {x:LV} {v:Value} (s:LS) (r:Rep c x v []):Rep c (s.co x) v []:=(r.coLeaf s).elim id id
theorem coL_len:∀(l:List LS) (xs:List LV),(coL l xs).length=xs.length
 |l,[]=>by cases l<;>rfl
 |[],x::xs=>rfl
 |s::l,x::xs=>by simp [coL,coL_len l xs]
theorem coL_get:∀(l:List LS) (xs:List LV) (i:Nat),(coL l xs).getD i .any=xs.getD i .any∨∃s:LS,(coL l xs).getD i .any=s.co (xs.getD i .any)
 |l,[],i=>by cases l<;>exact .inl rfl
 |[],x::xs,i=>.inl rfl
 |s::l,x::xs,0=>.inr ⟨s,rfl⟩
 |s::l,x::xs,i+1=>by simpa [coL] using coL_get l xs i
theorem coL_rep {c:Cx} {l:List LS} {xs:List LV} {v:Value} {i:Nat} (r:Rep c (xs.getD i .any) v []):Rep c ((coL l xs).getD i .any) v []:=by
 rcases coL_get l xs i with h|⟨s,h⟩
 ·rw [h];exact r
 ·rw [h];exact r.coLeaf' s
theorem Rep.co {c:Cx} {x:LV} {v:Value} {O:List Nat} (s:SH) (r:Rep c x v O):Rep c (s.co x) v O∨Rep c (s.co x) v []:=by
 cases s with
 |lf s=>exact r.coLeaf s
 |agg l =>
  cases r<;>first|(left;constructor<;>assumption)|skip
  rename_i xs cs hs hr
  exact .inl (.agg _ cs (by rw [hs,coL_len]) (fun i hi=>coL_rep (hr i (by rwa [coL_len] at hi))))
 |lbox l =>
  cases r<;>first|(left;constructor<;>assumption)|skip
  rename_i xs g cur e hs hh hI h1 hr
  exact .inl (.lbox _ g cur e (by rw [hs,coL_len]) hh hI h1 (fun i hi=>coL_rep (hr i (by rwa [coL_len] at hi))))
 |fn f l=>exact .inl r
theorem co_len:∀(m:Mk) (E:List LV),(m.co E).length=E.length
 |m,[]=>by rcases m with _|⟨_|s,m⟩<;>rfl
 |[],_::E=>by simp [Mk.co,co_len [] E]
 |none::m,_::E=>by simp [Mk.co,co_len m E]
 |some s::m,_::E=>by simp [Mk.co,co_len m E]
theorem co_get:∀(m:Mk) (E:List LV) (t:Nat),(m.co E).getD t .any = .any∨∃s:SH,(m.co E).getD t .any=s.co (E.getD t .any)
 |m,[],t=>.inl (by rcases m with _|⟨_|s,m⟩<;>rfl)
 |[],_::E,0=>.inl rfl
 |[],_::E,t+1=>by simpa [Mk.co] using co_get [] E t
 |none::m,_::E,0=>.inl rfl
 |none::m,_::E,t+1=>by simpa [Mk.co] using co_get m E t
 |some s::m,_::E,0=>.inr ⟨s,rfl⟩
 |some s::m,_::E,t+1=>by simpa [Mk.co] using co_get m E t
theorem co_rep {c:Cx} {m:Mk} {E:List LV} {t:Nat} {v:Value} {O:List Nat} (r:Rep c (E.getD t .any) v O):Rep c ((m.co E).getD t .any) v O∨Rep c ((m.co E).getD t .any) v []:=by
 rcases co_get m E t with h|⟨s,h⟩
 ·rw [h];exact .inr (.any _)
 ·rw [h];exact r.co s
open Classical in
theorem Rel.mask {fr:Fr} {q:Q} {a:Act} {c:Cx} (h:Rel fr q a c) (m:Mk):Rel fr (q.mask m) a c:=by
 obtain ⟨o,h⟩:=h
 have hlen:(q.mask m).E.length=q.E.length:=by simp [Q.mask,co_len]
 let o':Ow:=fun k=>match k with
  | .env t=>if Rep c ((q.mask m).E.getD t .any) (a.tmps.getD t undef) (o (.env t)) then o (.env t) else []
  |k=>o k
 have sub:∀k g,g∈o' k→g∈o k:=fun k g hg=>by
  cases k with
  |env t=>simp only [o'] at hg;split at hg;exact hg;simp at hg
  |sto id=>exact hg
  |arg i=>exact hg
 refine ⟨o',?_,?_,fun t ht=>?_,fun t d p hp=>?_,⟨h.sto.n,h.sto.r,h.sto.bd⟩,fun i hi=>absurd hi (by simp),rfl,⟨fun k=>?_,fun k k' g hne hg hg'=>h.sep.dj k k' g hne (sub k g hg) (sub k' g hg')⟩,h.ext,fun k g hg=>h.own k g (sub k g hg),h.df⟩
 ·rw [hlen];exact h.len
 ·rw [hlen];simp [Q.mask]
 ·rw [hlen] at ht
  simp only [o']
  split
  ·assumption
  ·rename_i hn
   rcases co_rep (m:=m) (h.env t ht) with h1|h1
   ·exact absurd h1 hn
   ·exact h1
 ·simp only [Q.mask,List.getD_eq_getElem?_getD,List.getElem?_replicate] at hp
  split at hp<;>simp at hp
 ·cases k with
  |env t=>simp only [o'];split<;>simp [h.sep.nd]
  |sto id=>exact h.sep.nd _
  |arg i=>exact h.sep.nd _
theorem getD_drop_take (xs:List LV) (o n i:Nat) (hi:i<n):((xs.drop o).take n).getD i .any=xs.getD (o+i) .any:=getD_part xs o n i hi
theorem chunks_len (z n:Nat) (xs:List LV) (h:n*z=xs.length):(chunks z n xs).length=n:=by
 unfold chunks
 split
 ·rename_i e;have:=Nat.eq_of_beq_eq_true e;subst this;simp;omega
 ·simp
theorem chunks_leaf (z n:Nat) (xs:List LV) (hz:0<z) (h:n*z=xs.length) (p:Nat) (hp:p<n*z):leaf ((chunks z n xs).getD (p / z) .any) (p % z)=dupL (xs.getD p .any)∨leaf ((chunks z n xs).getD (p / z) .any) (p % z) = .any:=by
 unfold chunks
 split
 ·rename_i e
  have:=Nat.eq_of_beq_eq_true e;subst this
  rw [Nat.div_one,Nat.mod_one,getD_mapDup]
  generalize hv:dupL (xs.getD p .any)=v
  cases v with
  |agg l =>
   exfalso
   cases hx:xs.getD p .any<;>rw [hx] at hv<;>cases hv
  |_=>exact .inl rfl
 ·have hd:p / z<n:=Nat.div_lt_of_lt_mul (by rw [Nat.mul_comm];exact hp)
  have hm:=Nat.mod_lt p hz
  have e1:((List.range n).map fun i=>LV.agg (((xs.drop (i*z)).take z).map dupL)).getD (p / z) .any = .agg (((xs.drop (p / z*z)).take z).map dupL):=by simp [List.getD_eq_getElem?_getD,hd]
  rw [e1]
  left
  show ((((xs.drop (p / z*z)).take z).map dupL).getD (p % z) .any)=_
  rw [getD_mapDup,getD_drop_take _ _ _ _ hm,Nat.div_add_mod' p z]
theorem frzQ_some {t:Nat} {q:Q} {K:Q→Option R} {r:R} (h:frzQ t q K=some r):∃q',K q'=some r∧∀{fr:Fr} {a:Act} {c:Cx},Rel fr q a c→∃c',c'.w=c.w∧Rel fr q' a c':=by
 unfold frzQ at h
 split at h
 rotate_left
 ·cases h
 rename_i id p z n hx
 obtain ⟨mk,ty,xs,hmk,hS,h0⟩:=objAt_some h
 clear h
 rcases ifB_some h0 with ⟨hb,h⟩|⟨_,h⟩
 rotate_left
 ·cases h
 clear h0
 simp only [Bool.and_eq_true] at hb
 obtain ⟨⟨⟨hb1,hb2⟩,hb3⟩,hb4⟩:=hb
 have hp:=Nat.eq_of_beq_eq_true hb1
 have hl:=Nat.eq_of_beq_eq_true hb2
 have hz:0<z:=Nat.le_of_ble_eq_true hb3
 have hn:=Nat.le_of_ble_eq_true hb4
 subst hp
 refine ⟨_,h,fun {fr a c} hr=>?_⟩
 obtain ⟨ow,hr⟩:=hr
 obtain ⟨hid,cur,os,hO,hs,hh,hI,h1,hrep,_⟩:=hr.obj hmk hS
 have ht:t<q.E.length:=by
  rcases Nat.lt_or_ge t q.E.length with h1|h1
  ·exact h1
  ·rw [List.getD_eq_getElem?_getD,List.getElem?_eq_none h1] at hx;simp at hx
 have hcell:∀j,j<xs.length→c.w.cell? ⟨c.ι id,j,none⟩=some (cur.getD j undef):=fun j hj=>by
  have:j<cur.size:=Nat.lt_of_lt_of_le hj hs
  simp [World.cell?,hh,this,Array.getD_eq_getD_getElem?]
 have hg:c.ι id∈ow (.sto id):=by rw [hO];simp
 have hglt:=(hr.own _ _ hg).1
 let c':Cx:={ c with I:=fun b p=>c.I b p∨(b=c.ι id∧p<xs.length) }
 have hext:Ext c c' (fun b=>b=c.ι id):=⟨Nat.le_refl _,fun _ _=>rfl,fun _ _ h=>.inl h,fun _ _ _=>rfl,Nat.le_refl _,fun _ _ _=>rfl,fun b o _ hb h=>by
  rcases h with h|h
  ·exact h
  ·exact absurd h.1 hb,(fun b cur _ k _ h=>⟨cur,k,h,rfl⟩),rfl,rfl,rfl⟩
 let o':Ow:=fun k=>match k with
  | .sto id'=>if id'=id then [] else ow (.sto id')
  | .env t'=>if t'=t then [] else ow (.env t')
  | .arg _=>[]
 have sub:∀k g,g∈o' k→g∈ow k:=fun k g hg=>by
  cases k with
  |sto id'=>simp only [o'] at hg;split at hg;simp at hg;exact hg
  |env t'=>simp only [o'] at hg;split at hg;simp at hg;exact hg
  |arg i=>simp [o'] at hg
 refine ⟨c',rfl,o',by simpa using hr.len,by simpa using hr.alen,fun t' ht'=>?_,fun t' d p hp=>by simpa using hr.al t' d p hp,⟨by simpa using hr.sto.n,fun id' hid'=>?_,fun b p hb=>?_⟩,fun i hi=>absurd hi (by simp),rfl,⟨fun k=>?_,fun k k' g hne h1 h2=>hr.sep.dj k k' g hne (sub k g h1) (sub k' g h2)⟩,?_,fun k g hg=>hr.own k g (sub k g hg),hr.df⟩
 ·have ht'':t'<q.E.length:=by simpa using ht'
  by_cases e1:t'=t
  ·subst e1
   have r:=hr.env t' ht''
   rw [hx] at r
   show Rep c' ((q.E.set t' (.sl z (chunks z n xs))).getD t' .any) _ _
   rw [getD_set_self _ _ _ ht'']
   simp only [o',if_true]
   generalize a.tmps.getD t' undef=v at r
   generalize ow (.env t')=O at r
   cases r with
   |oslX _ _ o2 _ _ cap hid hcap hmax ho' =>
    have ep:o2=0:=by rcases ho' with h|h;exact h;omega
    subst ep
    have hcl:=chunks_len z n xs hl
    have:=Rep.sl (c:=c') z (c.ι id) 0 cap (chunks z n xs) (fun p=>cur.getD p undef) (by rw [hcl];exact hcap) (by rw [hcl];exact hn) (fun p hp=>by rw [Nat.zero_add];exact hcell p (by rw [hcl] at hp;omega))
     (fun p hp=>.inr ⟨rfl,by rw [Nat.zero_add];rw [hcl] at hp;omega⟩) (fun p hp=>h1 p (by rw [hcl] at hp;omega)) (fun p hp=>by
      rw [hcl] at hp
      rcases chunks_leaf z n xs hz hl p hp with h|h
      ·rw [h];exact ((hrep p (by omega)).dupL).ext hext (by simp)
      ·rw [h];exact .any _)
    rw [hcl] at this
    exact this
  ·show Rep c' ((q.E.set t _).getD t' .any) _ _
   rw [getD_set_other _ _ e1]
   simp only [o',e1,if_false]
   exact (hr.env t' ht'').ext hext (fun b hb e=>by subst e;exact hr.sep.dj (.env t') (.sto id) _ (by simp) hb hg)
 ·have hid'':id'<q.S.length:=by simpa using hid'
  by_cases e1:id'=id
  ·subst e1
   show Rep c' ((q.S.set id' .any).getD id' .any) _ _
   rw [getD_set_self _ _ _ hid'']
   simp only [o',if_true]
   exact .any _
  ·show Rep c' ((q.S.set id .any).getD id' .any) (oval ((q.S.set id .any).getD id' .any) _) _
   rw [getD_set_other _ _ e1]
   simp only [o',e1,if_false]
   exact (hr.sto.r id' hid'').ext hext (fun b hb e=>by subst e;exact hr.sep.dj (.sto id') (.sto id) _ (by simpa using e1) hb hg)
 ·rcases hb with hb|⟨rfl,_⟩
  ·exact hr.sto.bd b p hb
  ·exact hglt
 ·cases k with
  |sto id'=>simp only [o'];split;exact List.nodup_nil;exact hr.sep.nd _
  |env t'=>simp only [o'];split;exact List.nodup_nil;exact hr.sep.nd _
  |arg i=>exact List.nodup_nil
 ·refine hr.ext.trans hext (fun b hb hm=>?_)
  subst hm
  rcases (hr.own _ _ hg).2 with h2|h2
  ·exact h2
  ·omega
def LX.toExit:LX→Exit
 | .nrm=>.normal
 | .ext id=>.exit id
 | .ret=>.ret
def CodeOk (P:Program) (code:Code) (q:Q) (x:LX) (q':Q):Prop :=
 ∀(fr:Fr) (a:Act) (c:Cx),Rel fr q a c→∀Qp:Exit→Act→World→Prop,(∀a' c',Rel fr q' a' c'→Qp x.toExit a' c'.w)→code.wp P Qp a c.w
theorem Rel.recast {fr:Fr} {q:Q} {a:Act} {c:Cx} (h:Rel fr q a c) (t:Nat) (x':LV) (hx:∀{v:Value} {O:List Nat},Rep c (q.E.getD t .any) v O→Rep c x' v []):Rel fr { q with E:=q.E.set t x' } a c:=by
 obtain ⟨o,h⟩:=h
 have hlen:(q.E.set t x').length=q.E.length:=by simp
 refine ⟨upd o (.env t) [],by simpa using h.len,by simpa using h.alen,fun t' ht'=>?_,fun t' d p hp=>by simpa using h.al t' d p hp,⟨h.sto.n,fun id hid=>?_,h.sto.bd⟩,fun i hi=>absurd hi (by simp),rfl,h.sep.drop _,h.ext,fun k g hg=>?_,h.df⟩
 ·have ht'':t'<q.E.length:=by simpa using ht'
  by_cases e:t'=t
  ·subst e
   show Rep c ((q.E.set t' x').getD t' .any) _ _
   rw [getD_set_self _ _ _ ht'',upd_same]
   exact hx (h.env t' ht'')
  ·show Rep c ((q.E.set t x').getD t' .any) _ _
   rw [getD_set_other _ _ e,upd_other _ _ (by simpa using e)]
   exact h.env t' ht''
 ·rw [upd_other _ _ (by simp)];exact h.sto.r id hid
 ·unfold upd at hg
  split at hg
  ·simp at hg
  ·exact h.own k g hg
theorem frzO_some {t z:Nat} {q:Q} {K:Q→Option R} {r:R} (h:frzO z (q.E.getD t .any) q.S (fun xs S=>K ⟨q.E.set t (.sl z xs),q.A,S⟩)=some r):∃q',K q'=some r∧∀{fr:Fr} {a:Act} {c:Cx},Rel fr q a c→∃c',c'.w=c.w∧Rel fr q' a c':=by
 unfold frzO at h
 split at h
 ·rename_i id p z' n hx
  refine frzQ_some (t:=t) (K:=K) ?_
  unfold frzQ
  rw [hx]
  simp only
  obtain ⟨mk,ty,xs,hm,hS,h⟩:=objAt_some h
  unfold objAt
  rw [hS]
  have key:ifB (Nat.beq p 0&&Nat.beq (n*z') xs.length&&Nat.blt 0 z'&&Nat.ble n 9223372036854775807) (K { q with E:=q.E.set t (.sl z' (chunks z' n xs)),S:=q.S.set id .any }) none=some r:=by
   rcases ifB_some h with ⟨h1,h⟩|⟨_,h⟩
   ·rw [Bool.and_eq_true] at h1
    have e:=Nat.eq_of_beq_eq_true h1.1
    subst e
    rw [h1.2]
    exact h
   ·cases h
  rcases hm with rfl|rfl<;>exact key
 ·rename_i hx
  exact ⟨_,h,fun {fr a c} hr=>⟨c,rfl,hr.recast t (.sl z []) fun {v O} r=>by rw [hx] at r;cases r;exact .sl0 _ none 0 (fun _=>rfl)⟩⟩
 ·cases h
theorem frzL_some {t j z:Nat} {vs:List LV} {q:Q} (hx:q.E.getD t .any = .lbox vs) {K:Q→Option R} {r:R} (h:frzO z (vs.getD j .any) q.S (fun ys S=>K ⟨q.E.set t (.lbox (vs.set j (.sl z ys))),q.A,S⟩)=some r):∃q',K q'=some r∧∀{fr:Fr} {a:Act} {c:Cx},Rel fr q a c→∃c',c'.w=c.w∧Rel fr q' a c':=by
 have ht:t<q.E.length:=by
  rcases Nat.lt_or_ge t q.E.length with h1|h1
  ·exact h1
  ·rw [List.getD_eq_getElem?_getD,List.getElem?_eq_none h1] at hx;simp at hx
 have setj:∀(y:LV) (i:Nat),(vs.set j y).getD i .any=if i=j∧j<vs.length then y else vs.getD i .any:=fun y i=>by
  by_cases e:i=j
  ·subst e
   by_cases hl:i<vs.length
   ·rw [getD_set_self _ _ _ hl,if_pos ⟨rfl,hl⟩]
   ·rw [if_neg (fun hh=>hl hh.2),List.set_eq_of_length_le (Nat.le_of_not_lt hl)]
  ·rw [getD_set_other _ _ e,if_neg (fun hh=>e hh.1)]
 unfold frzO at h
 split at h
 ·rename_i id p z' n hv
  obtain ⟨mk,ty,xs,hmk,hS,h0⟩:=objAt_some h
  clear h
  rcases ifB_some h0 with ⟨hb,h⟩|⟨_,h⟩
  rotate_left
  ·cases h
  clear h0
  simp only [Bool.and_eq_true] at hb
  obtain ⟨hb0,⟨⟨hb1,hb2⟩,hb3⟩,hb4⟩:=hb
  have e0:=Nat.eq_of_beq_eq_true hb0
  have hp:=Nat.eq_of_beq_eq_true hb1
  have hl:=Nat.eq_of_beq_eq_true hb2
  have hz:0<z:=Nat.le_of_ble_eq_true hb3
  have hn:=Nat.le_of_ble_eq_true hb4
  subst hp;subst e0
  refine ⟨_,h,fun {fr a c} hr=>?_⟩
  obtain ⟨ow,hr⟩:=hr
  obtain ⟨hid,cur,os,hO,hs,hh,hI,h1,hrep,_⟩:=hr.obj hmk hS
  have hcell:∀j,j<xs.length→c.w.cell? ⟨c.ι id,j,none⟩=some (cur.getD j undef):=fun j hj=>by
   have:j<cur.size:=Nat.lt_of_lt_of_le hj hs
   simp [World.cell?,hh,this,Array.getD_eq_getD_getElem?]
  have hg:c.ι id∈ow (.sto id):=by rw [hO];simp
  have hglt:=(hr.own _ _ hg).1
  let c':Cx:={ c with I:=fun b p=>c.I b p∨(b=c.ι id∧p<xs.length) }
  have hext:Ext c c' (fun b=>b=c.ι id):=⟨Nat.le_refl _,fun _ _=>rfl,fun _ _ h=>.inl h,fun _ _ _=>rfl,Nat.le_refl _,fun _ _ _=>rfl,fun b o _ hb h=>by
   rcases h with h|h
   ·exact h
   ·exact absurd h.1 hb,(fun b cur _ k _ h=>⟨cur,k,h,rfl⟩),rfl,rfl,rfl⟩
  let o':Ow:=fun k=>match k with
   | .sto id'=>if id'=id then [] else ow (.sto id')
   | .env t'=>ow (.env t')
   | .arg _=>[]
  have sub:∀k g,g∈o' k→g∈ow k:=fun k g hg=>by
   cases k with
   |sto id'=>simp only [o'] at hg;split at hg;simp at hg;exact hg
   |env t'=>exact hg
   |arg i=>simp [o'] at hg
  refine ⟨c',rfl,o',by simpa using hr.len,by simpa using hr.alen,fun t' ht'=>?_,fun t' d p hp=>by simpa using hr.al t' d p hp,⟨by simpa using hr.sto.n,fun id' hid'=>?_,fun b p hb=>?_⟩,fun i hi=>absurd hi (by simp),rfl,⟨fun k=>?_,fun k k' g hne h1 h2=>hr.sep.dj k k' g hne (sub k g h1) (sub k' g h2)⟩,?_,fun k g hg=>hr.own k g (sub k g hg),hr.df⟩
  ·have ht'':t'<q.E.length:=by simpa using ht'
   by_cases e1:t'=t
   ·subst e1
    have r:=hr.env t' ht''
    have hne:c.ι id∉ow (.env t'):=fun hm=>hr.sep.dj (.env t') (.sto id) _ (by simp) hm hg
    rw [hx] at r
    show Rep c' ((q.E.set t' _).getD t' .any) _ _
    rw [getD_set_self _ _ _ ht'']
    simp only [o']
    generalize a.tmps.getD t' undef=v at r
    generalize hOO:ow (.env t')=O at r hne
    cases r with
    |lbox _ g cur2 e hs2 hh2 hI2 h12 hr2 =>
     have hgne:g≠c.ι id:=fun e=>hne (by rw [←e];simp)
     refine .lbox _ g cur2 e (by simpa using hs2) hh2 (fun p hp=>?_) h12 (fun i hi=>?_)
     ·rcases hp with hp|hp
      ·exact hI2 p hp
      ·exact hgne hp.1
     ·have hi':i<vs.length:=by simpa using hi
      rw [setj]
      split
      ·rename_i e
       have r2:=hr2 i hi'
       rw [e.1,hv] at r2
       rw [e.1]
       generalize cur2.getD j undef=u at r2
       cases r2 with
       |oslX _ _ o2 _ _ cap hid hcap hmax ho' =>
        have ep:o2=0:=by rcases ho' with h|h;exact h;omega
        subst ep
        have hcl:=chunks_len z' n xs hl
        have:=Rep.sl (c:=c') z' (c.ι id) 0 cap (chunks z' n xs) (fun p=>cur.getD p undef) (by rw [hcl];exact hcap) (by rw [hcl];exact hn) (fun p hp=>by rw [Nat.zero_add];exact hcell p (by rw [hcl] at hp;omega))
         (fun p hp=>.inr ⟨rfl,by rw [Nat.zero_add];rw [hcl] at hp;omega⟩) (fun p hp=>h1 p (by rw [hcl] at hp;omega)) (fun p hp=>by
          rw [hcl] at hp
          rcases chunks_leaf z' n xs hz hl p hp with h|h
          ·rw [h];exact ((hrep p (by omega)).dupL).ext hext (by simp)
          ·rw [h];exact .any _)
        rw [hcl] at this
        exact this
      ·exact (hr2 i hi').ext hext (by simp)
   ·show Rep c' ((q.E.set t _).getD t' .any) _ _
    rw [getD_set_other _ _ e1]
    simp only [o']
    exact (hr.env t' ht'').ext hext (fun b hb e=>by subst e;exact hr.sep.dj (.env t') (.sto id) _ (by simp) hb hg)
  ·have hid'':id'<q.S.length:=by simpa using hid'
   by_cases e1:id'=id
   ·subst e1
    show Rep c' ((q.S.set id' .any).getD id' .any) _ _
    rw [getD_set_self _ _ _ hid'']
    simp only [o',if_true]
    exact .any _
   ·show Rep c' ((q.S.set id .any).getD id' .any) (oval ((q.S.set id .any).getD id' .any) _) _
    rw [getD_set_other _ _ e1]
    simp only [o',e1,if_false]
    exact (hr.sto.r id' hid'').ext hext (fun b hb e=>by subst e;exact hr.sep.dj (.sto id') (.sto id) _ (by simpa using e1) hb hg)
  ·rcases hb with hb|⟨rfl,_⟩
   ·exact hr.sto.bd b p hb
   ·exact hglt
  ·cases k with
   |sto id'=>simp only [o'];split;exact List.nodup_nil;exact hr.sep.nd _
   |env t'=>exact hr.sep.nd _
   |arg i=>exact List.nodup_nil
  ·refine hr.ext.trans hext (fun b hb hm=>?_)
   subst hm
   rcases (hr.own _ _ hg).2 with h2|h2
   ·exact h2
   ·omega
 ·rename_i hv
  refine ⟨_,h,fun {fr a c} hr=>⟨c,rfl,?_⟩⟩
  obtain ⟨o,hr⟩:=hr
  refine ⟨o,by simpa using hr.len,by simpa using hr.alen,fun t' ht'=>?_,fun t' d p hp=>by simpa using hr.al t' d p hp,hr.sto,hr.fly,hr.flyl,hr.sep,hr.ext,hr.own,hr.df⟩
  have ht'':t'<q.E.length:=by simpa using ht'
  by_cases e1:t'=t
  ·subst e1
   have r:=hr.env t' ht''
   rw [hx] at r
   show Rep c ((q.E.set t' _).getD t' .any) _ _
   rw [getD_set_self _ _ _ ht'']
   generalize a.tmps.getD t' undef=v at r
   generalize o (.env t')=O at r
   cases r with
   |lbox _ g cur2 e hs2 hh2 hI2 h12 hr2 =>
    refine .lbox _ g cur2 e (by simpa using hs2) hh2 hI2 h12 (fun i hi=>?_)
    have hi':i<vs.length:=by simpa using hi
    rw [setj]
    split
    ·rename_i e
     have r2:=hr2 i hi'
     rw [e.1,hv] at r2
     rw [e.1]
     generalize cur2.getD j undef=u at r2
     cases r2
     exact .sl0 _ none 0 (fun _=>rfl)
    ·exact hr2 i hi'
  ·show Rep c ((q.E.set t _).getD t' .any) _ _
   rw [getD_set_other _ _ e1]
   exact hr.env t' ht''
 ·cases h
end
end Go.Lm
namespace Go.Lm
section
variable {R:Type} {P:Program} {T:Nat→Option TI} {C:Nat→Hd R}
theorem asInt_at {R':Type} (k:IntKind) (n:Int) (K:Int→Option R'):asInt k (.int k n) K=K n:=by simp [asInt,ifB]
theorem asSl_loc {sz:Nat} {v:LV} {K:List LV→Option R} {r:R} (h:asSl sz v K=some r):∃xs,K xs=some r∧∀{R':Type} (K':List LV→Option R'),asSl sz v K'=K' xs:=by
 cases v<;>simp only [asSl] at h<;>try (cases h;done)
 ·exact ⟨_,h,fun K'=>rfl⟩
 all_goals
  rcases ifB_some h with ⟨h1,h2⟩|⟨_,h2⟩
  ·exact ⟨_,h2,fun K'=>by simp only [asSl,h1,ifB]⟩
  ·cases h2
theorem mat_loc {n:Nat} {v:LV} {K:List LV→Option R} {r:R} (h:mat n v K=some r):∃xs,K xs=some r∧∀{R':Type} (K':List LV→Option R'),mat n v K'=K' xs:=by
 cases v<;>simp only [mat] at h<;>try (cases h;done)
 rcases ifB_some h with ⟨h1,h2⟩|⟨_,h2⟩
 ·exact ⟨_,h2,fun K'=>by simp only [mat,h1,ifB]⟩
 ·cases h2
theorem eqLs_loc:∀{ls:List LK} {xs ys:List LV} {K:Bool→Option R} {r:R},eqLs ls xs ys K=some r→∃b,K b=some r∧∀{R':Type} (K':Bool→Option R'),eqLs ls xs ys K'=K' b:=by
 intro ls
 induction ls with
 |nil =>
  intro xs ys K r h
  cases xs<;>cases ys<;>simp only [eqLs] at h<;>try (cases h;done)
  exact ⟨true,h,fun K'=>rfl⟩
 |cons l ls ih =>
  intro xs ys K r h
  cases l<;>cases xs<;>cases ys<;>simp only [eqLs] at h<;>try (cases h;done)
  ·obtain ⟨m,rfl,h1⟩:=asInt_some h
   obtain ⟨n,rfl,h2⟩:=asInt_some h1
   obtain ⟨b,h3,hb⟩:=ih h2
   exact ⟨_,h3,fun K'=>by simp only [eqLs,asInt_at,hb]⟩
  ·obtain ⟨m,rfl,h1⟩:=asBool_some h
   obtain ⟨n,rfl,h2⟩:=asBool_some h1
   obtain ⟨b,h3,hb⟩:=ih h2
   exact ⟨_,h3,fun K'=>by simp only [eqLs,asBool,hb]⟩
  ·obtain ⟨m,rfl,h1⟩:=asStr_some h
   obtain ⟨n,rfl,h2⟩:=asStr_some h1
   obtain ⟨b,h3,hb⟩:=ih h2
   exact ⟨_,h3,fun K'=>by simp only [eqLs,asStr,hb]⟩
theorem boolBin_loc {op:BinOp} {a b:Bool} {K:LV→Option R} {r:R} (h:boolBin op a b K=some r):∃v,K v=some r∧∀{R':Type} (K':LV→Option R'),boolBin op a b K'=K' v:=by
 cases op<;>simp only [boolBin] at h<;>try (cases h;done)
 all_goals exact ⟨_,h,fun K'=>rfl⟩
theorem isNil_loc {v:LV} {K:Bool→Option R} {r:R} (h:isNil v K=some r):∃b,K b=some r∧∀{R':Type} (K':Bool→Option R'),isNil v K'=K' b:=by
 unfold isNil at h
 split at h
 ·exact ⟨_,h,fun K'=>rfl⟩
 ·exact ⟨_,h,fun K'=>rfl⟩
 ·exact ⟨_,h,fun K'=>rfl⟩
 ·exact ⟨_,h,fun K'=>rfl⟩
 ·exact ⟨_,h,fun K'=>rfl⟩
 ·cases h
theorem isNilP_loc {v:LV} {K:Bool→Option R} {r:R} (h:isNilP v K=some r):∃b,K b=some r∧∀{R':Type} (K':Bool→Option R'),isNilP v K'=K' b:=by
 unfold isNilP at h
 split at h
 ·exact ⟨_,h,fun K'=>rfl⟩
 ·exact ⟨_,h,fun K'=>rfl⟩
 ·exact ⟨_,h,fun K'=>rfl⟩
 ·cases h
theorem binop_loc {t:TI} {op:BinOp} {x y:LV} {K:LV→Option R} {r:R} (h:binop t op x y K=some r):∃v,K v=some r∧∀{R':Type} (K':LV→Option R'),binop t op x y K'=K' v:=by
 unfold binop at h
 split at h
 ·rename_i k hk
  split at h
  ·rename_i hs
   obtain ⟨m,rfl,h0⟩:=asInt_some h
   obtain ⟨k',n,rfl,h2⟩:=asI_some h0
   rcases ifB_some h2 with ⟨_,h⟩|⟨h1,h⟩
   ·cases h
   ·exact ⟨_,h,fun K'=>by simp only [binop,hk,hs,asInt_at,asI,h1,ifB]⟩
  ·rename_i hs
   obtain ⟨m,rfl,h0⟩:=asInt_some h
   obtain ⟨n,rfl,h2⟩:=asInt_some h0
   cases op<;>simp only [intBin] at h2<;>try (cases h2;done)
   all_goals first
    |exact ⟨_,h2,fun K'=>by simp only [binop,hk,hs,asInt_at,intBin]⟩
    | (rcases ifB_some h2 with ⟨_,h⟩|⟨h1,h⟩
       ·cases h
       ·exact ⟨_,h,fun K'=>by simp only [binop,hk,hs,asInt_at,intBin,h1,ifB]⟩)
 ·rename_i hk
  obtain ⟨m,rfl,h0⟩:=asStr_some h
  obtain ⟨n,rfl,h2⟩:=asStr_some h0
  cases op<;>simp only [strBin] at h2<;>try (cases h2;done)
  all_goals first
   |exact ⟨_,h2,fun K'=>by simp only [binop,hk,asStr,strBin]⟩
   | (unfold catStr at h2
      rcases ifB_some h2 with ⟨h1,h⟩|⟨_,h⟩
      ·exact ⟨_,h,fun K'=>by simp only [binop,hk,asStr,strBin,catStr,h1,ifB]⟩
      ·cases h)
 ·rename_i hk
  obtain ⟨m,rfl,h0⟩:=asBool_some h
  obtain ⟨n,rfl,h2⟩:=asBool_some h0
  obtain ⟨v,h,hv⟩:=boolBin_loc h2
  exact ⟨v,h,fun K'=>by simp only [binop,hk,asBool,hv]⟩
 ·rename_i hk
  split at h
  ·rename_i ls hl
   obtain ⟨xs,h,h1⟩:=mat_loc h
   obtain ⟨ys,h,h2⟩:=mat_loc h
   obtain ⟨b,h,h3⟩:=eqLs_loc h
   obtain ⟨v,h,h4⟩:=boolBin_loc h
   exact ⟨v,h,fun K'=>by simp only [binop,hk,hl,h1,h2,h3,h4]⟩
  ·cases h
 ·rename_i hk
  split at h
  ·obtain ⟨b,h,h3⟩:=isNil_loc h
   obtain ⟨v,h,h4⟩:=boolBin_loc h
   exact ⟨v,h,fun K'=>by simp only [binop,hk,h3,h4]⟩
  ·cases h
 ·rename_i hk
  split at h
  ·obtain ⟨b,h,h3⟩:=isNilP_loc h
   obtain ⟨v,h,h4⟩:=boolBin_loc h
   exact ⟨v,h,fun K'=>by simp only [binop,hk,h3,h4]⟩
  ·cases h
 ·cases h
theorem dec_loc {l:LK} {v:LV} {K:LV→Option R} {r:R} (h:dec l v K=some r):∃x,K x=some r∧∀{R':Type} (K':LV→Option R'),dec l v K'=K' x:=by
 cases l<;>simp only [dec] at h
 ·obtain ⟨m,rfl,h1⟩:=asInt_some h;exact ⟨_,h1,fun K'=>by simp only [dec,asInt_at]⟩
 ·obtain ⟨m,rfl,h1⟩:=asBool_some h;exact ⟨_,h1,fun K'=>by simp only [dec,asBool]⟩
 ·obtain ⟨m,rfl,h1⟩:=asStr_some h;exact ⟨_,h1,fun K'=>by simp only [dec,asStr]⟩
 ·obtain ⟨xs,h,hx⟩:=asSl_loc h;exact ⟨_,h,fun K'=>by simp only [dec,hx]⟩
 ·exact ⟨_,h,fun K'=>rfl⟩
 ·exact ⟨_,h,fun K'=>rfl⟩
 ·exact ⟨_,h,fun K'=>rfl⟩
 ·exact ⟨_,h,fun K'=>rfl⟩
theorem decL_loc:∀{ls:List LK} {xs:List LV} {i:Nat} {K:List LV→Option R} {r:R},decL ls xs i K=some r→∃x,K x=some r∧∀{R':Type} (K':List LV→Option R'),decL ls xs i K'=K' x:=by
 intro ls
 induction ls with
 |nil=>intro xs i K r h;exact ⟨_,h,fun K'=>rfl⟩
 |cons l ls ih =>
  intro xs i K r h
  simp only [decL] at h
  obtain ⟨x,h,hx⟩:=dec_loc h
  obtain ⟨y,h,hy⟩:=ih h
  exact ⟨_,h,fun K'=>by simp only [decL,hx,hy]⟩
theorem decT_loc {t:TI} {v:LV} {K:LV→Option R} {r:R} (h:decT t v K=some r):∃x,K x=some r∧∀{R':Type} (K':LV→Option R'),decT t v K'=K' x:=by
 unfold decT at h
 split at h
 ·rename_i hk
  obtain ⟨xs,h,hx⟩:=mat_loc h
  obtain ⟨y,h,hy⟩:=decL_loc h
  exact ⟨_,h,fun K'=>by simp only [decT,hk,hx,hy]⟩
 ·rename_i hk
  obtain ⟨xs,h,hx⟩:=mat_loc h
  obtain ⟨y,h,hy⟩:=decL_loc h
  exact ⟨_,h,fun K'=>by simp only [decT,hk,hx,hy]⟩
 ·rename_i h1 h2
  split at h
  ·rename_i l hl
   obtain ⟨x,h,hx⟩:=dec_loc h
   refine ⟨x,h,fun K'=>?_⟩
   unfold decT
   split
   ·exact absurd (by assumption) h1
   ·exact absurd (by assumption) h2
   ·simp only [hl,hx]
  ·cases h
structure Agr (ops:Array Oper) (o:Oper) (q q':Q):Prop where
 ev:∀x,x∈o.op.operands.toList→ev q'.E x=ev q.E x
 addr:∀x,x∈o.op.operands.toList→q'.addr x=q.addr x
 box:∀x,x∈o.op.operands.toList→∀d p,q.addr x=some (d,p)→boxAt q'.E d=boxAt q.E d
 gd:∀j w,o.guard=some (j,w)→∀d,(ops[j]?).bind (·.dst)=some d→q'.E.getD d .any=q.E.getD d .any
 S:takeB o=false→q'.S=q.S
 al:∀t,Operand.tmp t∈o.op.operands.toList→q'.A.getD t none=q.A.getD t none
theorem intOr_loc {E E':List LV} {x:Option Operand} {d:Int} {K:Int→Option R} {r:R} (he:∀y,x=some y→ev E' y=ev E y) (h:intOr E x d K=some r):∃n,K n=some r∧∀{R':Type} (K':Int→Option R'),intOr E' x d K'=K' n:=by
 cases x with
 |none=>exact ⟨d,h,fun K'=>rfl⟩
 |some x =>
  simp only [intOr] at h
  obtain ⟨k,n,hn,h1⟩:=asI_some h
  exact ⟨n,h1,fun K'=>by simp only [intOr,he x rfl,hn,asI]⟩
theorem still_loc {ops:Array Oper} {o:Oper} {q q':Q} (hs:stillB o=true) (ha:Agr ops o q q') {K:LV→Option (Nat×Nat)→Q→Option R} {r:R} (h:lop T C o q K=some r) :
  ∃x al,K x al q=some r∧∀{R':Type} (C':Nat→Hd R') (K':LV→Option (Nat×Nat)→Q→Option R'),lop T C' o q' K'=K' x al q':=by
 have hev:=ha.ev
 have had:=ha.addr
 have hbx:=ha.box
 unfold lop at h
 split at h<;>rename_i ho<;>simp only [stillB,ho] at hs<;>try (cases hs;done)
  
 ·rename_i x
  have e1:=hev x (by rw [ho];simp [Op.operands])
  have e2:=had x (by rw [ho];simp [Op.operands])
  split at h
  ·rename_i hf
   exact ⟨_,_,h,fun C' K'=>by simp only [lop,ho,hf,e1,e2]⟩
  ·rename_i hf
   split at h
   ·rename_i hf2
    exact ⟨_,_,h,fun C' K'=>by simp only [lop,ho,hf,hf2,e1]⟩
   ·rename_i hf2
    obtain ⟨xs,h,hx⟩:=asSl_loc h
    exact ⟨_,_,h,fun C' K'=>by simp only [lop,ho,hf,hf2,e1,hx]⟩
  
 ·rename_i cc a b
  have e1:=hev cc (by rw [ho];simp [Op.operands])
  have e2:=hev a (by rw [ho];simp [Op.operands])
  have e3:=hev b (by rw [ho];simp [Op.operands])
  obtain ⟨t,ht,h1⟩:=asBool_some h
  rcases ifB_some h1 with ⟨rfl,h2⟩|⟨rfl,h2⟩
  ·exact ⟨_,_,h2,fun C' K'=>by simp only [lop,ho,e1,e2,ht,asBool,ifB]⟩
  ·exact ⟨_,_,h2,fun C' K'=>by simp only [lop,ho,e1,e3,ht,asBool,ifB]⟩
  
 ·rename_i e
  split at h
  ·rename_i ti ht
   simp only [hs] at h
   exact ⟨_,_,h,fun C' K'=>by simp only [lop,ho,ht,hs]⟩
  ·cases h
  
 ·rename_i e x
  have e1:=hev x (by rw [ho];simp [Op.operands])
  split at h
  ·rename_i ti ht
   simp only [hs] at h
   split at h
   ·rename_i hz
    exact ⟨_,_,h,fun C' K'=>by simp only [lop,ho,ht,hs,e1,hz]⟩
   ·cases h
  ·cases h
  
 ·rename_i f first cs
  have e1:(cs.toList.map fun x=>dup (Lm.ev q'.E x))=cs.toList.map fun x=>dup (Lm.ev q.E x):=List.map_congr_left fun x hx=>by
   rw [hev x (by rw [ho];simp only [Op.operands];simp;exact .inr (by simpa using hx))]
  have e2:(first.toList.map fun x=>dup (Lm.ev q'.E x))=first.toList.map fun x=>dup (Lm.ev q.E x):=List.map_congr_left fun x hx=>by
   rw [hev x (by rw [ho];simp only [Op.operands];simp;exact .inl (by simpa using hx))]
  split at h
  ·rename_i hf
   split at h
   ·rename_i hb
    exact ⟨_,_,h,fun C' K'=>by simp only [lop,ho,hf,hb,e1]⟩
   ·cases h
  ·rename_i y l hl
   split at h
   ·rename_i hcs
    rw [hl] at e2
    exact ⟨_,_,h,fun C' K'=>by simp only [lop,ho,hl,hcs,e2]⟩
   ·cases h
  
 ·rename_i x
  have e1:=hev x (by rw [ho];simp [Op.operands])
  have e2:=had x (by rw [ho];simp [Op.operands])
  split at h
  ·rename_i hf
   obtain ⟨id,p,hx,h⟩:=asPtr_some h
   exact ⟨_,_,h,fun C' K'=>by simp only [lop,ho,hf,e1,hx];rfl⟩
  rename_i hf
  split at h
  ·rename_i p hp
   exact ⟨_,_,h,fun C' K'=>by simp only [lop,ho,hf,e2,hp]⟩
  ·rename_i hp
   split at h
   ·rename_i id p hx
    exact ⟨_,_,h,fun C' K'=>by simp only [lop,ho,hf,e2,hp,e1,hx]⟩
   ·rename_i v n p hx
    exact ⟨_,_,h,fun C' K'=>by simp only [lop,ho,hf,e2,hp,e1,hx]⟩
   ·cases h
  
 ·rename_i t ps
  have e1:(ps.toList.map fun p=>dup (Lm.ev q'.E p.2))=ps.toList.map fun p=>dup (Lm.ev q.E p.2):=List.map_congr_left fun p hp=>by
   rw [hev p.2 (by rw [ho];simp only [Op.operands];exact List.mem_map.2 ⟨p,hp,rfl⟩)]
  split at h
  ·rename_i ti ht
   split at h
   ·rename_i hk
    split at h
    ·rename_i z hz
     exact ⟨_,_,h,fun C' K'=>by simp only [lop,ho,ht,hk,e1,hz]⟩
    ·cases h
   ·cases h
  ·cases h
  
 ·rename_i t len ps
  have e1:(ps.toList.map fun p=>dup (Lm.ev q'.E p.2))=ps.toList.map fun p=>dup (Lm.ev q.E p.2):=List.map_congr_left fun p hp=>by
   rw [hev p.2 (by rw [ho];simp only [Op.operands];exact List.mem_map.2 ⟨p,hp,rfl⟩)]
  have e2:∀(f:LV→Bool),ps.toList.all (fun p=>f (dup (Lm.ev q'.E p.2)))=ps.toList.all fun p=>f (dup (Lm.ev q.E p.2)):=fun f=>by
   have h1:∀(E:List LV),ps.toList.all (fun p=>f (dup (Lm.ev E p.2)))=(ps.toList.map fun p=>dup (Lm.ev E p.2)).all f:=fun E=>by rw [List.all_map];rfl
   rw [h1,h1,e1]
  have e3:=fun n=>e2 fun v=>Nat.beq (cellsOf v).length n&&(cellsOf v).all one
  split at h
  ·rename_i ti ht
   split at h
   ·rename_i hk
    simp only [hs] at h
    split at h
    ·rename_i hz
     exact ⟨_,_,h,fun C' K'=>by simp only [lop,ho,ht,hk,hs,e1,e3,hz]⟩
    ·cases h
   ·cases h
  ·cases h
  
 ·rename_i t x
  have e1:=hev x (by rw [ho];simp [Op.operands])
  have e2:=had x (by rw [ho];simp [Op.operands])
  have e3:=hbx x (by rw [ho];simp [Op.operands])
  split at h
  ·rename_i ti ht
   simp only [hs] at h
   split at h
   ·rename_i d p hd
    have e3:=e3 d p hd
    split at h
    ·rename_i hz
     exact ⟨_,_,h,fun C' K'=>by simp only [lop,ho,ht,hs,e2,hd,e3,hz]⟩
    ·cases h
   ·rename_i hd
    split at h
    ·rename_i v n p hv
     split at h
     ·rename_i hk
      split at h
      ·rename_i hz
       obtain ⟨x,h,hx⟩:=decT_loc h
       exact ⟨_,_,h,fun C' K'=>by simp only [lop,ho,ht,hs,e2,hd,e1,hv,hk,hz,hx]⟩
      ·rename_i hz
       unfold ifB at h
       split at h
       ·rename_i hl
        obtain ⟨xs,h,hx⟩:=mat_loc h
        obtain ⟨y,h,hy⟩:=decL_loc h
        exact ⟨_,_,h,fun C' K'=>by simp only [lop,ho,ht,hs,e2,hd,e1,hv,hk,hz,ifB,hl,hx,hy]⟩
       ·cases h
     ·rename_i hk
      split at h
      ·rename_i hz
       obtain ⟨x,h,hx⟩:=decT_loc h
       exact ⟨_,_,h,fun C' K'=>by simp only [lop,ho,ht,hs,e2,hd,e1,hv,hk,hz,hx]⟩
      ·cases h
    ·cases h
  ·cases h
  
 ·rename_i op t x y yt
  have e1:=hev x (by rw [ho];simp [Op.operands])
  have e2:=hev y (by rw [ho];simp [Op.operands])
  split at h
  ·rename_i ti ht
   obtain ⟨v,h,hv⟩:=binop_loc h
   exact ⟨_,_,h,fun C' K'=>by simp only [lop,ho,ht,e1,e2,hv]⟩
  ·cases h
  
 ·rename_i op t x
  have e1:=hev x (by rw [ho];simp [Op.operands])
  split at h
  ·obtain ⟨b,hb,h⟩:=asBool_some h
   exact ⟨_,_,h,fun C' K'=>by simp only [lop,ho,e1,hb,asBool]⟩
  ·cases h
  
 ·rename_i s t x
  have e1:=hev x (by rw [ho];simp [Op.operands])
  split at h
  ·rename_i si ti hsi hti
   split at h
   ·rename_i h1 h2
    obtain ⟨n,hn,h⟩:=asInt_some h
    exact ⟨_,_,h,fun C' K'=>by simp only [lop,ho,hsi,hti,h1,h2,e1,hn,asInt_at]⟩
   ·rename_i h1 h2
    obtain ⟨n,hn,h⟩:=asStr_some h
    exact ⟨_,_,h,fun C' K'=>by simp only [lop,ho,hsi,hti,h1,h2,e1,hn,asStr]⟩
   ·rename_i h1 h2
    split at h
    ·rename_i h3
     obtain ⟨xs,h,hx⟩:=asSl_loc h
     unfold strOf at h
     split at h
     ·rename_i l hl
      exact ⟨_,_,h,fun C' K'=>by simp only [lop,ho,hsi,hti,h1,h2,h3,e1,hx,strOf,hl]⟩
     ·cases h
    ·cases h
   ·rename_i h1 h2
    split at h
    ·rename_i h3
     obtain ⟨n,hn,h⟩:=asStr_some h
     rcases ifB_some h with ⟨h4,h⟩|⟨_,h⟩
     ·exact ⟨_,_,h,fun C' K'=>by simp only [lop,ho,hsi,hti,h1,h2,h3,e1,hn,asStr,h4,ifB]⟩
     ·cases h
    ·cases h
   ·cases h
  ·cases h
  
 ·rename_i t x lo hi mx
  have e1:=hev x (by rw [ho];simp [Op.operands])
  have e2:∀y,lo=some y→Lm.ev q'.E y=Lm.ev q.E y:=fun y hy=>hev y (by rw [ho,hy];simp [Op.operands])
  have e3:∀y,hi=some y→Lm.ev q'.E y=Lm.ev q.E y:=fun y hy=>hev y (by rw [ho,hy];simp [Op.operands])
  split at h
  ·rename_i ti ht
   split at h
   ·rename_i hk
    obtain ⟨n,hn,h⟩:=asStr_some h
    obtain ⟨l,h,h2⟩:=intOr_loc e2 h
    obtain ⟨u,h,h3⟩:=intOr_loc e3 h
    unfold slStr at h
    rcases ifB_some h with ⟨h4,h⟩|⟨_,h⟩
    ·exact ⟨_,_,h,fun C' K'=>by simp only [lop,ho,ht,hk,e1,hn,asStr,h2,h3,slStr,h4,ifB]⟩
    ·cases h
   ·rename_i hk
    split at h
    rotate_left
    ·rename_i hf
     split at h
     ·rename_i hi _ _
      have e4:=e3 _ rfl
      obtain ⟨k,m,hm,h⟩:=asI_some h
      unfold slO at h
      split at h
      ·rename_i hx
       rcases ifB_some h with ⟨h1,h⟩|⟨_,h⟩
       ·exact ⟨_,_,h,fun C' K'=>by simp only [lop,ho,ht,hk,hf,e1,e4,hm,asI,hx,slO,h1,ifB]⟩
       ·cases h
      ·rename_i hx
       rcases ifB_some h with ⟨h1,h⟩|⟨_,h⟩
       ·exact ⟨_,_,h,fun C' K'=>by simp only [lop,ho,ht,hk,hf,e1,e4,hm,asI,hx,slO,h1,ifB]⟩
       ·cases h
      ·cases h
     ·have e4:=e2 _ rfl
      obtain ⟨k,m,hm,h⟩:=asI_some h
      rcases oslOr_some h with ⟨id,p,z,n,hx,h⟩|⟨_,h⟩
      ·obtain ⟨u,h,h3⟩:=intOr_loc e3 h
       rcases ifB_some h with ⟨h4,h⟩|⟨_,h⟩
       ·exact ⟨_,_,h,fun C' K'=>by simp only [lop,ho,ht,hk,hf,e1,e4,hm,asI,hx,oslOr,h3,h4,ifB]⟩
       ·cases h
      ·cases h
     ·cases h
    rename_i hf
    obtain ⟨xs,h,hx⟩:=asSl_loc h
    obtain ⟨l,h,h2⟩:=intOr_loc e2 h
    obtain ⟨u,h,h3⟩:=intOr_loc e3 h
    unfold slL at h
    rcases ifB_some h with ⟨h4,h⟩|⟨_,h⟩
    ·exact ⟨_,_,h,fun C' K'=>by simp only [lop,ho,ht,hk,hf,e1,hx,h2,h3,slL,h4,ifB]⟩
    ·cases h
   ·cases h
  ·cases h
  
 ·rename_i t x i
  have e1:=hev x (by rw [ho];simp [Op.operands])
  have e2:=had x (by rw [ho];simp [Op.operands])
  split at h
  ·rename_i ti ht
   split at h
   ·rename_i f1 f2 f3 hf
    split at h
    ·rename_i d p hd
     exact ⟨_,_,h,fun C' K'=>by simp only [lop,ho,ht,hf,e2,hd]⟩
    ·rename_i hd
     split at h
     ·rename_i v n p hv
      split at h
      ·rename_i hz
       exact ⟨_,_,h,fun C' K'=>by simp only [lop,ho,ht,hf,e2,hd,e1,hv,hz]⟩
      ·cases h
     ·rename_i id p hv
      exact ⟨_,_,h,fun C' K'=>by simp only [lop,ho,ht,hf,e2,hd,e1,hv]⟩
     ·cases h
   ·cases h
  ·cases h
  
 ·rename_i t x i
  have e1:=hev x (by rw [ho];simp [Op.operands])
  split at h
  ·rename_i ti ht
   split at h
   ·rename_i f1 f2 f3 hf
    split at h
    ·rename_i fi xs hfi hx
     split at h
     ·rename_i hz
      exact ⟨_,_,h,fun C' K'=>by simp only [lop,ho,ht,hf,hfi,e1,hx,hz]⟩
     ·cases h
    ·cases h
   ·cases h
  ·cases h
  
 ·rename_i t x i
  have e1:=hev x (by rw [ho];simp [Op.operands])
  have e2:=hev i (by rw [ho];simp [Op.operands])
  split at h
  ·rename_i ti ht
   split at h
   ·rename_i hk
    rcases oslOr_some h with ⟨id,p,z,n,hx,h⟩|⟨ho2,h⟩
    ·rcases ifB_some h with ⟨h5,h⟩|⟨_,h⟩
     ·obtain ⟨k,m,hm,h⟩:=asI_some h
      unfold idxN at h
      rcases ifB_some h with ⟨h4,h⟩|⟨_,h⟩
      ·exact ⟨_,_,h,fun C' K'=>by simp only [lop,ho,ht,hk,e1,e2,hx,oslOr,h5,hm,asI,idxN,h4,ifB]⟩
      ·cases h
     ·cases h
    split at h
    rotate_left
    ·cases h
    rename_i hf
    obtain ⟨xs,h,hx⟩:=asSl_loc h
    obtain ⟨k,n,hn,h⟩:=asI_some h
    unfold idxL at h
    rcases ifB_some h with ⟨h4,h⟩|⟨_,h⟩
    ·exact ⟨_,_,h,fun C' K'=>by simp only [lop,ho,ht,hk,e1,e2,ho2,hf,hx,hn,asI,idxL,h4,ifB]⟩
    ·cases h
   ·cases h
  ·cases h
  
 ·rename_i t x i
  have e1:=hev x (by rw [ho];simp [Op.operands])
  have e2:=hev i (by rw [ho];simp [Op.operands])
  split at h
  ·rename_i ti ht
   split at h
   ·rename_i hk
    obtain ⟨s,hs,h⟩:=asStr_some h
    obtain ⟨k,n,hn,h⟩:=asI_some h
    unfold idxStr at h
    rcases ifB_some h with ⟨h4,h⟩|⟨_,h⟩
    ·exact ⟨_,_,h,fun C' K'=>by simp only [lop,ho,ht,hk,e1,e2,hs,asStr,hn,asI,idxStr,h4,ifB]⟩
    ·cases h
   ·cases h
  ·cases h
  
 ·rename_i x i
  have hs:Nat.beq (flg o) 0=false:=by simpa using hs
  have e1:=hev x (by rw [ho];simp [Op.operands])
  split at h
  ·rename_i t vs hx
   split at h
   ·rename_i hb
    simp only [hs] at h
    exact ⟨_,_,h,fun C' K'=>by simp only [lop,ho,e1,hx,hb,hs]⟩
   ·cases h
  ·cases h
  
 ·rename_i cl
  split at hs<;>try (cases hs;done)
  rotate_left
  ·rename_i hb
   have hfl:=hs
   simp only [hb,hs] at h
   unfold callB at h
   split at h
   ·rename_i heq _ _;cases heq
   ·rename_i heq _ _;cases heq
   ·rename_i x y _ hargs
    have e1:=hev x (by rw [ho];simp only [Op.operands,Call.operands,hb];simp [hargs])
    have e2:=hev y (by rw [ho];simp only [Op.operands,Call.operands,hb];simp [hargs])
    split at h
    ·rename_i k a k' b h1 h2
     exact ⟨_,_,h,fun C' K'=>by simp only [lop,ho,hb,hfl,callB,hargs,e1,e2,h1,h2]⟩
    ·cases h
   ·cases h
  rename_i hb
  have hfl:=hs
  simp only [hb,hs] at h
  unfold callB at h
  split at h
  ·rename_i t x _ hat hargs
   have e1:=hev x (by rw [ho];simp only [Op.operands,Call.operands,hb];simp [hargs])
   split at h
   ·rename_i ti ht
    split at h
    ·rename_i hk
     obtain ⟨s,hs,h⟩:=asStr_some h
     exact ⟨_,_,h,fun C' K'=>by simp only [lop,ho,hb,hfl,callB,hat,hargs,ht,hk,e1,hs,asStr]⟩
    ·rename_i hk
     rcases oslOr_some h with ⟨id,p,z,n,hx,h⟩|⟨ho2,h⟩
     ·exact ⟨_,_,h,fun C' K'=>by simp only [lop,ho,hb,hfl,callB,hat,hargs,ht,hk,e1,hx,oslOr]⟩
     obtain ⟨xs,h,hx⟩:=asSl_loc h
     exact ⟨_,_,h,fun C' K'=>by simp only [lop,ho,hb,hfl,callB,hat,hargs,ht,hk,e1,ho2,hx]⟩
    ·cases h
   ·cases h
  ·rename_i heq _ _;cases heq
  ·rename_i heq _;cases heq
  ·cases h
 ·cases h
end
end Go.Lm
namespace Go.Lm
section
variable {R:Type} {P:Program} {T:Nat→Option TI} {C:Nat→Hd R}
def dupAt:List Nat→List LV→List LV
 |[],E=>E
 |t::U,E=>dupAt U (E.set t (dup (E.getD t .any)))
abbrev Acts:=List (Nat×(LV→LV))
def actAt:Acts→List LV→List LV
 |[],E=>E
 | (t,f)::U,E=>actAt U (E.set t (f (E.getD t .any)))
def dups (U:List Nat):Acts:=U.map fun t=>(t,dup)
def us (U:Acts):List Nat:=U.map Prod.fst
theorem us_dups (U:List Nat):us (dups U)=U:=by
 unfold us dups
 rw [List.map_map]
 exact List.map_id U
theorem dupAt_act:∀(U:List Nat) (E:List LV),dupAt U E=actAt (dups U) E
 |[],_=>rfl
 |t::U,E=>dupAt_act U _
theorem actAt_ne:∀(U:Acts) (E:List LV) (s:Nat),s∉us U→(actAt U E).getD s .any=E.getD s .any
 |[],E,s,_=>rfl
 | (t,f)::U,E,s,h=>by
  have h:s∉t::us U:=h
  simp only [List.mem_cons,not_or] at h
  rw [actAt,actAt_ne U _ s h.2]
  simp only [List.getD_eq_getElem?_getD,List.getElem?_set_ne (Ne.symm h.1)]
theorem actAt_set:∀(U:Acts) (E:List LV) (d:Nat) (v:LV),d∉us U→actAt U (E.set d v)=(actAt U E).set d v
 |[],E,d,v,_=>rfl
 | (t,f)::U,E,d,v,h=>by
  have h:d∉t::us U:=h
  simp only [List.mem_cons,not_or] at h
  have:(E.set d v).getD t .any=E.getD t .any:=by simp only [List.getD_eq_getElem?_getD,List.getElem?_set_ne h.1]
  rw [actAt,this,List.set_comm _ _ h.1,actAt_set U _ d v h.2];rfl
theorem actAt_comm:∀(U V:Acts) (E:List LV),(∀t,t∈us U→t∉us V)→actAt U (actAt V E)=actAt V (actAt U E)
 |[],_,_,_=>rfl
 | (t,f)::U,V,E,h=>by
  have ht:=h t (by simp [us])
  rw [actAt,actAt,actAt_ne V E t ht,←actAt_set V E t _ ht,actAt_comm U V _ fun s hs=>h s (by simp only [us,List.map_cons,List.mem_cons];exact .inr hs)]
def Q.giv (q:Q) (U:Acts) (S:Option (List LV)):Q:={ q with E:=actAt U q.E,S:=S.getD q.S }
def Q.give (q:Q) (U:List Nat) (S:List LV):Q:={ q with E:=dupAt U q.E,S:=S }
theorem give_giv (q:Q) (U:List Nat) (S:List LV):q.give U S=q.giv (dups U) (some S):=by unfold Q.give Q.giv;rw [dupAt_act];rfl
theorem give_giv0 (q:Q) (U:List Nat):q.give U q.S=q.giv (dups U) none:=by unfold Q.give Q.giv;rw [dupAt_act];rfl
theorem getD_set_dup (E:List LV) (t s:Nat):(E.set t (dup (E.getD t .any))).getD s .any=if s=t then dup (E.getD t .any) else E.getD s .any:=by
 by_cases h:s=t
 ·subst h
  rw [if_pos rfl]
  by_cases hl:s<E.length
  ·simp [List.getD_eq_getElem?_getD,hl]
  ·have:E.getD s .any = .any:=by simp [List.getD_eq_getElem?_getD,List.getElem?_eq_none (Nat.le_of_not_lt hl)]
   rw [this,List.set_eq_of_length_le (Nat.le_of_not_lt hl),this];rfl
 ·rw [if_neg h]
  simp only [List.getD_eq_getElem?_getD,List.getElem?_set_ne (Ne.symm h)]
theorem used_give (q:Q) (x:Operand):q.used x=q.give (tmpsOf [x]) q.S:=by cases x<;>rfl
theorem takes_give:∀(xs:List Operand) (q:Q),(takes xs q).2=q.give (tmpsOf xs) q.S
 |[],q=>rfl
 |x::xs,q=>by
  rw [takes,takes_give xs,used_give]
  cases x<;>rfl
theorem ev_used {q q':Q} {x y:Operand} (hx:ev q'.E x=ev q.E x) (hy:ev q'.E y=ev q.E y):ev (q'.used x).E y=ev (q.used x).E y:=by
 cases x with
 |tmp t =>
  cases y with
  |tmp s =>
   simp only [Q.used,ev] at *
   rw [getD_set_dup,getD_set_dup,hx,hy]
  |_=>exact hy
 |_=>exact hy
theorem takes_congr:∀(xs:List Operand) (q q':Q),(∀x,x∈xs→ev q'.E x=ev q.E x)→(takes xs q').1=(takes xs q).1
 |[],_,_,_=>rfl
 |x::xs,q,q',h=>by
  rw [takes,takes,h x (by simp),takes_congr xs (q.used x) (q'.used x) (fun y hy=>by
   exact ev_used (h x (by simp)) (h y (by simp [hy])))]
theorem noneHd (f:FuncId):HSound P f (R:=R) (fun _ _ _=>none):=fun _ _ _ _ h=>by cases h
theorem asPtr_loc {v:LV} {K:Nat→Nat→Option R} {r:R} (h:asPtr v K=some r):∃i o,K i o=some r∧∀{R':Type} (K':Nat→Nat→Option R'),asPtr v K'=K' i o:=by
 obtain ⟨i,o,rfl,h⟩:=asPtr_some h
 exact ⟨i,o,h,fun K'=>rfl⟩
theorem asMap_loc {v:LV} {K:Nat→Option R} {r:R} (h:asMap v K=some r):∃i,K i=some r∧∀{R':Type} (K':Nat→Option R'),asMap v K'=K' i:=by
 obtain ⟨i,rfl,h⟩:=asMap_some h
 exact ⟨i,h,fun K'=>rfl⟩
theorem objAt_loc {S:List LV} {id:Nat} {K:(List LV→LV)→List LV→Option R} {r:R} (h:objAt S id K=some r):∃ty xs,K ty xs=some r∧∀{R':Type} (K':(List LV→LV)→List LV→Option R'),objAt S id K'=K' ty xs:=by
 obtain ⟨mk,ty,xs,hm,hx,h⟩:=objAt_some h
 exact ⟨mk,xs,h,fun K'=>by unfold objAt;rw [hx];rcases hm with rfl|rfl<;>rfl⟩
theorem mpAt_loc {S:List LV} {id:Nat} {kd:KD} {K:List (LV×LV)→Option R} {r:R} (h:mpAt S id kd K=some r):∃xs,K xs=some r∧∀{R':Type} (K':List (LV×LV)→Option R'),mpAt S id kd K'=K' xs:=by
 unfold mpAt at h
 split at h
 ·rename_i d kvs hx
  rcases ifB_some h with ⟨h1,h⟩|⟨_,h⟩
  ·exact ⟨kvs,h,fun K'=>by unfold mpAt;rw [hx];simp only [h1,ifB]⟩
  ·cases h
 ·cases h
theorem asOwn_loc {e z:Nat} {v:LV} {K:List LV→Option R} {r:R} (h:asOwn e z v K=some r):∃xs,K xs=some r∧∀{R':Type} (K':List LV→Option R'),asOwn e z v K'=K' xs:=by
 unfold asOwn at h
 split at h
 ·rename_i e' z' ys
  rcases ifB_some h with ⟨h1,h⟩|⟨_,h⟩
  ·exact ⟨ys,h,fun K'=>by simp only [asOwn,h1,ifB]⟩
  ·cases h
 ·exact ⟨_,h,fun K'=>rfl⟩
 ·cases h
theorem stO_loc {xs:List LV} {p:Nat} {cs:List LV} {K:List LV→Option R} {r:R} (h:stO xs p cs K=some r):∃ys,K ys=some r∧∀{R':Type} (K':List LV→Option R'),stO xs p cs K'=K' ys:=by
 unfold stO at h
 rcases ifB_some h with ⟨h1,h⟩|⟨_,h⟩
 ·exact ⟨_,h,fun K'=>by simp only [stO,h1,ifB]⟩
 ·cases h
theorem ldO_loc {t:TI} {xs:List LV} {p:Nat} {K:LV→Option R} {r:R} (h:ldO t xs p K=some r):∃y,K y=some r∧∀{R':Type} (K':LV→Option R'),ldO t xs p K'=K' y:=by
 unfold ldO at h
 split at h
 ·rename_i hk
  rcases ifB_some h with ⟨h1,h⟩|⟨_,h⟩
  ·obtain ⟨l,h,hl⟩:=decL_loc h
   exact ⟨_,h,fun K'=>by simp only [ldO,hk,h1,ifB,hl]⟩
  ·cases h
 ·rename_i hk
  split at h
  ·rename_i l hl
   unfold ldL at h
   rcases ifB_some h with ⟨h1,h⟩|⟨_,h⟩
   ·obtain ⟨y,h,hy⟩:=dec_loc h
    exact ⟨y,h,fun K'=>by simp only [ldO,hk,hl,ldL,h1,ifB,hy]⟩
   ·cases h
  ·cases h
theorem srcL_loc {k:KD} {ez z:Nat} {y:LV} {K:List LV→Option R} {r:R} (h:srcL k ez z y K=some r):∃xs,K xs=some r∧∀{R':Type} (K':List LV→Option R'),srcL k ez z y K'=K' xs:=by
 unfold srcL at h
 split at h
 ·rcases ifB_some h with ⟨h1,h⟩|⟨_,h⟩
  ·obtain ⟨xs,h,hx⟩:=asSl_loc h
   exact ⟨xs,h,fun K'=>by simp only [srcL,h1,ifB,hx]⟩
  ·cases h
 ·rcases ifB_some h with ⟨h1,h⟩|⟨_,h⟩
  ·obtain ⟨s,rfl,h⟩:=asStr_some h
   exact ⟨_,h,fun K'=>by simp only [srcL,h1,ifB,asStr]⟩
  ·cases h
 ·cases h
theorem mkN_loc {n:Int} {b:Nat} {K:Nat→Option R} {r:R} (h:mkN n b K=some r):∃m,K m=some r∧∀{R':Type} (K':Nat→Option R'),mkN n b K'=K' m:=by
 unfold mkN at h
 rcases ifB_some h with ⟨h1,h⟩|⟨_,h⟩
 ·exact ⟨_,h,fun K'=>by simp only [mkN,h1,ifB]⟩
 ·cases h
theorem cellsAt_loc {S:List LV} {id:Nat} {K:Nat→List LV→Option R} {r:R} (h:cellsAt S id K=some r):∃ty xs,K ty xs=some r∧∀{R':Type} (K':Nat→List LV→Option R'),cellsAt S id K'=K' ty xs:=by
 unfold cellsAt at h
 split at h
 ·rename_i hx;exact ⟨_,_,h,fun K'=>by unfold cellsAt;rw [hx]⟩
 ·rename_i hx;exact ⟨_,_,h,fun K'=>by unfold cellsAt;rw [hx]⟩
 ·cases h
theorem appO_loc {e z bytes:Nat} {S:List LV} {v:LV} {ys:List LV} {K:Nat→Nat→List LV→Option R} {r:R} (h:appO e z bytes S v ys K=some r):∃x m S',K x m S'=some r∧∀{R':Type} (K':Nat→Nat→List LV→Option R'),appO e z bytes S v ys K'=K' x m S':=by
 unfold appO at h
 split at h
 ·obtain ⟨ty,xs,h,h1⟩:=cellsAt_loc h
  rcases ifB_some h with ⟨h2,h⟩|⟨_,h⟩
  ·exact ⟨_,_,_,h,fun K'=>by simp only [appO,h1,h2,ifB]⟩
  ·cases h
 ·rcases ifB_some h with ⟨h2,h⟩|⟨_,h⟩
  ·exact ⟨_,_,_,h,fun K'=>by simp only [appO,h2,ifB]⟩
  ·cases h
 ·cases h
def storeB (o:Oper):Bool:=match o.op with
 | .assign _=>false
 | .call c=>(match c.callee with
  | .builtin .len=>!(Nat.beq (flg o) 0)
  | .builtin .append=>!(Nat.beq (flg o) 0)
  | .builtin .copy=>!(Nat.beq (flg o) 0)
  |_=>false)
 |_=>mildB o
theorem store_loc {ops:Array Oper} {o:Oper} {q:Q} (hs:storeB o=true) {K:LV→Option (Nat×Nat)→Q→Option R} {r:R} (h:lop T C o q K=some r) :
  takeB o=false∧∃x U S,K x none (q.giv U S)=some r∧(calmB o=true→S=none)∧(∀t,t∈us U→t∈usedOf o)∧∀q',Agr ops o q q'→∀{R':Type} (C':Nat→Hd R') (K':LV→Option (Nat×Nat)→Q→Option R'),lop T C' o q' K'=K' x none (q'.giv U S):=by
 unfold lop at h
 split at h<;>rename_i ho<;>simp only [storeB,mildB,ho,Bool.not_eq_true'] at hs<;>try (cases hs;done)
  
 ·rename_i e
  have hns:takeB o=false:=by simp [takeB,stillB,ho,hs]
  have hnc:calmB o=false:=by simp [calmB,hns,ho]
  refine ⟨hns,?_⟩
  split at h
  ·rename_i ti ht
   simp only [hs] at h
   exact ⟨_,[],some _,h,(fun hc=>by rw [hnc] at hc;cases hc),(fun _ h=>by cases h),fun q' ha R' C' K'=>by simp only [lop,ho,ht,hs,newObj,ha.S hns];rfl⟩
  ·cases h
  
 ·rename_i e x
  have hns:takeB o=false:=by simp [takeB,stillB,ho,hs]
  have hnc:calmB o=false:=by simp [calmB,hns,ho]
  refine ⟨hns,?_⟩
  split at h
  ·rename_i ti ht
   simp only [hs] at h
   split at h
   ·rename_i hz
    exact ⟨_,[],some _,h,(fun hc=>by rw [hnc] at hc;cases hc),(fun _ h=>by cases h),fun q' ha R' C' K'=>by
     have e1:=ha.ev x (by rw [ho];simp [Op.operands])
     simp only [lop,ho,ht,hs,newObj,ha.S hns,e1,hz];rfl⟩
   ·cases h
  ·cases h
  
 ·rename_i t
  have hns:takeB o=false:=by simp [takeB,stillB,ho]
  have hnc:calmB o=false:=by simp [calmB,hns,ho]
  refine ⟨hns,?_⟩
  split at h
  ·rename_i ti ht
   split at h
   ·rename_i kt hk1 hk2
    exact ⟨_,[],some _,h,(fun hc=>by rw [hnc] at hc;cases hc),(fun _ h=>by cases h),fun q' ha R' C' K'=>by simp only [lop,ho,ht,hk1,hk2,newObj,ha.S hns];rfl⟩
   ·cases h
  ·cases h
  
 ·rename_i t x y
  have hns:takeB o=false:=by simp [takeB,stillB,ho]
  have hnc:calmB o=false:=by simp [calmB,hns,ho]
  refine ⟨hns,?_⟩
  split at h
  ·rename_i ti ht
   split at h
   ·rename_i et k1 n k2 m hk1 hk2 hx hy
    rcases ifB_some h with ⟨h1,h⟩|⟨_,h⟩
    ·obtain ⟨m',h,hm⟩:=mkN_loc h
     exact ⟨_,[],some _,h,(fun hc=>by rw [hnc] at hc;cases hc),(fun _ h=>by cases h),fun q' ha R' C' K'=>by
      have e1:=ha.ev x (by rw [ho];simp [Op.operands])
      have e2:=ha.ev y (by rw [ho];simp [Op.operands])
      simp only [lop,ho,ht,hk1,hk2,e1,e2,hx,hy,h1,ifB,hm,newObj,ha.S hns];rfl⟩
    ·cases h
   ·cases h
  ·cases h
  
 ·rename_i t m k ok
  have hns:takeB o=false:=by simp [takeB,stillB,ho]
  refine ⟨hns,?_⟩
  split at h
  ·rename_i ti ht
   split at h
   ·rename_i kt et hk1 hk2 hk3
    obtain ⟨id,h,h1⟩:=asMap_loc h
    obtain ⟨kvs,h,h2⟩:=mpAt_loc h
    split at h
    ·rename_i h3
     obtain ⟨v,h,h4⟩:=decT_loc h
     exact ⟨_,[],none,h,(fun _=>rfl),(fun _ h=>by cases h),fun q' ha R' C' K'=>by
      have e1:=ha.ev m (by rw [ho];simp [Op.operands])
      have e2:=ha.ev k (by rw [ho];simp [Op.operands])
      simp only [lop,ho,ht,hk1,hk2,hk3,e1,e2,ha.S hns,h1,h2,h3,h4];rfl⟩
    ·cases h
   ·cases h
  ·cases h
  
 ·rename_i t m k y
  have hns:takeB o=false:=by simp [takeB,stillB,ho]
  have hnc:calmB o=false:=by simp [calmB,hns,ho]
  refine ⟨hns,?_⟩
  split at h
  ·rename_i ti ht
   split at h
   ·rename_i kt hk1 hk2
    obtain ⟨id,h,h1⟩:=asMap_loc h
    obtain ⟨kvs,h,h2⟩:=mpAt_loc h
    split at h
    ·rename_i h3
     exact ⟨_,[],some _,h,(fun hc=>by rw [hnc] at hc;cases hc),(fun _ h=>by cases h),fun q' ha R' C' K'=>by
      have e1:=ha.ev m (by rw [ho];simp [Op.operands])
      have e2:=ha.ev k (by rw [ho];simp [Op.operands])
      have e3:=ha.ev y (by rw [ho];simp [Op.operands])
      simp only [lop,ho,ht,hk1,hk2,e1,e2,e3,ha.S hns,h1,h2,h3];rfl⟩
    ·cases h
   ·cases h
  ·cases h
  
 ·rename_i t len ps
  have hns:takeB o=false:=by simp [takeB,stillB,ho,hs]
  have hnc:calmB o=false:=by simp [calmB,hns,ho]
  refine ⟨hns,?_⟩
  split at h
  ·rename_i ti ht
   split at h
   ·rename_i hk
    simp only [hs] at h
    split at h
    ·rename_i hl
     exact ⟨_,[],some _,h,(fun hc=>by rw [hnc] at hc;cases hc),(fun _ h=>by cases h),fun q' ha R' C' K'=>by simp only [lop,ho,ht,hk,hs,hl,newObj,ha.S hns];rfl⟩
    ·cases h
   ·cases h
  ·cases h
  
 ·rename_i t x
  have hns:takeB o=false:=by simp [takeB,stillB,ho,hs]
  refine ⟨hns,?_⟩
  split at h
  ·rename_i ti ht
   simp only [hs] at h
   obtain ⟨id,p,h,h1⟩:=asPtr_loc h
   obtain ⟨ty,xs,h,h2⟩:=objAt_loc h
   split at h
   ·rename_i h9
    split at h
    ·rename_i h3
     unfold ldRaw at h
     rcases ifB_some h with ⟨h4,h⟩|⟨_,h⟩
     ·exact ⟨_,[],none,h,(fun _=>rfl),(fun _ h=>by cases h),fun q' ha R' C' K'=>by
       have e1:=ha.ev x (by rw [ho];simp [Op.operands])
       simp only [lop,ho,ht,hs,e1,ha.S hns,h1,h2,h9,h3,ldRaw,h4,ifB];rfl⟩
     ·cases h
    ·cases h
   rename_i h9
   split at h
   ·rename_i h3 h4
    obtain ⟨ys,h,h5⟩:=asOwn_loc h
    have hnc:calmB o=false:=by simp [calmB,hns,ho,h3]
    exact ⟨_,[],some _,h,(fun hc=>by rw [hnc] at hc;cases hc),(fun _ h=>by cases h),fun q' ha R' C' K'=>by
     have e1:=ha.ev x (by rw [ho];simp [Op.operands])
     simp only [lop,ho,ht,hs,e1,ha.S hns,h1,h2,h9,h3,h4,h5];rfl⟩
   ·cases h
   ·rename_i h3
    obtain ⟨v,h,h5⟩:=ldO_loc h
    split at h
    ·rename_i h6 h7
     obtain ⟨i',p',h,h8⟩:=asPtr_loc h
     exact ⟨_,[],none,h,(fun _=>rfl),(fun _ h=>by cases h),fun q' ha R' C' K'=>by
      have e1:=ha.ev x (by rw [ho];simp [Op.operands])
      simp only [lop,ho,ht,hs,e1,ha.S hns,h1,h2,h9,h3,h5,h6,h7,h8];rfl⟩
    ·rename_i h6 h7
     obtain ⟨i',h,h8⟩:=asMap_loc h
     exact ⟨_,[],none,h,(fun _=>rfl),(fun _ h=>by cases h),fun q' ha R' C' K'=>by
      have e1:=ha.ev x (by rw [ho];simp [Op.operands])
      simp only [lop,ho,ht,hs,e1,ha.S hns,h1,h2,h9,h3,h5,h6,h7,h8];rfl⟩
    ·cases h
    ·rename_i h6
     exact ⟨_,[],none,h,(fun _=>rfl),(fun _ h=>by cases h),fun q' ha R' C' K'=>by
      have e1:=ha.ev x (by rw [ho];simp [Op.operands])
      simp only [lop,ho,ht,hs,e1,ha.S hns,h1,h2,h9,h3,h5,h6];rfl⟩
  ·cases h
  
 ·rename_i t x y
  have hns:takeB o=false:=by simp [takeB,stillB,ho]
  refine ⟨hns,?_⟩
  split at h
  ·rename_i hf
   unfold storeD at h
   split at h
   ·rename_i ti d ht
    split at h
    ·rename_i xs hA hE
     split at h
     ·rename_i hb
      refine ⟨_,[(d,fun _=>.lbox (setFrom xs 0 (cellsOf (dup (Lm.ev q.E y)))))],none,h,(fun _=>rfl),(fun t ht=>?_),fun q' ha R' C' K'=>?_⟩
      ·simp only [usedOf,ho,hf]
       simpa [us,tmpsOf] using ht
      ·have e2:=ha.ev y (by rw [ho];simp [Op.operands])
       have e1:q'.E.getD d .any = .lbox xs:=(ha.ev (.tmp d) (by rw [ho];simp [Op.operands])).trans hE
       have e3:=ha.addr (.tmp d) (by rw [ho];simp [Op.operands])
       have e4:q'.A.getD d none=none:=by
        simp only [Q.addr,hA,hE,e1] at e3
        cases hz:q'.A.getD d none with
        |none=>rfl
        |some z =>
         exfalso
         have:=ha.al d (by rw [ho];simp [Op.operands])
         rw [hz,hA] at this
         cases this
       simp only [lop,ho,hf,storeD,ht,e4,e1,e2,hb]
       rfl
     ·cases h
    ·cases h
   ·cases h
  rename_i hf
  have hnc:calmB o=false:=by simp [calmB,hns,ho,hf]
  split at h
  ·rename_i ti ht
   simp only [hs] at h
   obtain ⟨id,p,h,h1⟩:=asPtr_loc h
   obtain ⟨ty,xs,h,h2⟩:=objAt_loc h
   split at h
   ·rename_i z ys h3 h4
    split at h
    ·rename_i h5
     obtain ⟨zs,h,h6⟩:=stO_loc h
     refine ⟨_,dups (tmpsOf [y]),some (q.S.set id (ty zs)),?_,(fun hc=>by rw [hnc] at hc;cases hc),(fun t ht=>by rw [us_dups] at ht;simp only [usedOf,ho,hf,h3];exact ht),fun q' ha R' C' K'=>by
      have e1:=ha.ev x (by rw [ho];simp [Op.operands])
      have e2:=ha.ev y (by rw [ho];simp [Op.operands])
      simp only [lop,ho,hf,ht,hs,e1,e2,ha.S hns,h1,h2,h3,h4,h5,h6,used_give]
      show K' .any none ⟨dupAt (tmpsOf [y]) q'.E,q'.A,_⟩=K' .any none ⟨actAt (dups (tmpsOf [y])) q'.E,q'.A,_⟩
      rw [dupAt_act];rfl⟩
     rw [used_give,give_giv0] at h
     exact h
    ·cases h
   ·cases h
   ·rename_i h3
    split at h
    ·rename_i h5
     obtain ⟨zs,h,h6⟩:=stO_loc h
     exact ⟨_,[],some _,h,(fun hc=>by rw [hnc] at hc;cases hc),(fun _ h=>by cases h),fun q' ha R' C' K'=>by
      have e1:=ha.ev x (by rw [ho];simp [Op.operands])
      have e2:=ha.ev y (by rw [ho];simp [Op.operands])
      simp only [lop,ho,hf,ht,hs,e1,e2,ha.S hns,h1,h2,h3,h5,h6];rfl⟩
    ·cases h
  ·cases h
  
 ·rename_i cl
  split at hs<;>try (cases hs;done)
  ·rename_i hb
   have hfl:Nat.beq (flg o) 0=false:=by simpa using hs
   have hns:takeB o=false:=by simp [takeB,stillB,ho,hb,hfl]
   refine ⟨hns,?_⟩
   simp only [hb,hfl] at h
   unfold callM at h
   split at h
   ·rename_i t x _ hat hargs
    have hx:x∈o.op.operands.toList:=by rw [ho];simp only [Op.operands,Call.operands,hb];simp [hargs]
    split at h
    ·rename_i ti ht
     split at h
     ·rename_i kt hk1 hk2
      obtain ⟨id,h,h1⟩:=asMap_loc h
      obtain ⟨kvs,h,h2⟩:=mpAt_loc h
      exact ⟨_,[],none,h,(fun _=>rfl),(fun _ h=>by cases h),fun q' ha R' C' K'=>by
       simp only [lop,ho,hb,hfl,callM,hat,hargs,ht,hk1,hk2,ha.ev x hx,ha.S hns,h1,h2];rfl⟩
     ·rename_i hk1
      unfold lenO at h
      split at h
      ·rename_i hv
       exact ⟨_,[],none,h,(fun _=>rfl),(fun _ h=>by cases h),fun q' ha R' C' K'=>by
        simp only [lop,ho,hb,hfl,callM,hat,hargs,ht,hk1,ha.ev x hx,hv,lenO];rfl⟩
      ·rename_i hv
       exact ⟨_,[],none,h,(fun _=>rfl),(fun _ h=>by cases h),fun q' ha R' C' K'=>by
        simp only [lop,ho,hb,hfl,callM,hat,hargs,ht,hk1,ha.ev x hx,hv,lenO];rfl⟩
      ·cases h
     ·cases h
    ·cases h
   ·rename_i heq _ _;cases heq
   ·rename_i heq _ _;cases heq
   ·cases h
  ·rename_i hb
   have hfl:Nat.beq (flg o) 0=false:=by simpa using hs
   have hns:takeB o=false:=by simp [takeB,stillB,ho,hb]
   have hnc:calmB o=false:=by simp [calmB,hns,ho,hb]
   refine ⟨hns,?_⟩
   simp only [hb,hfl] at h
   unfold callM at h
   split at h
   ·rename_i heq _ _;cases heq
   ·rename_i t t' x y _ hat hargs
    have hx:x∈o.op.operands.toList:=by rw [ho];simp only [Op.operands,Call.operands,hb];simp [hargs]
    have hy:y∈o.op.operands.toList:=by rw [ho];simp only [Op.operands,Call.operands,hb];simp [hargs]
    split at h
    ·rename_i ti ti' ht ht'
     split at h
     ·rename_i hk1
      obtain ⟨ys,h,h1⟩:=srcL_loc h
      have h2:=h
      obtain ⟨v,m,S',h,h3⟩:=appO_loc h
      exact ⟨_,[],some S',h,(fun hc=>by rw [hnc] at hc;cases hc),(fun _ h=>by cases h),fun q' ha R' C' K'=>by
       simp only [lop,ho,hb,hfl,callM,hat,hargs,ht,ht',hk1,ha.ev x hx,ha.ev y hy,ha.S hns,h1,h3];rfl⟩
     ·cases h
    ·cases h
   ·rename_i heq _ _;cases heq
   ·cases h
  ·rename_i hb
   have hfl:Nat.beq (flg o) 0=false:=by simpa using hs
   have hns:takeB o=false:=by simp [takeB,stillB,ho,hb]
   have hnc:calmB o=false:=by simp [calmB,hns,ho,hb]
   refine ⟨hns,?_⟩
   simp only [hb,hfl] at h
   unfold callM at h
   split at h
   ·rename_i heq _ _;cases heq
   ·rename_i heq _ _;cases heq
   ·rename_i t t' x y _ hat hargs
    have hx:x∈o.op.operands.toList:=by rw [ho];simp only [Op.operands,Call.operands,hb];simp [hargs]
    have hy:y∈o.op.operands.toList:=by rw [ho];simp only [Op.operands,Call.operands,hb];simp [hargs]
    split at h
    ·rename_i ti ti' ht ht'
     split at h
     ·rename_i hk1
      rcases oslOr_some h with ⟨id,p,z,n,hv,h⟩|⟨_,h⟩
      ·rcases ifB_some h with ⟨h1,h⟩|⟨_,h⟩
       ·obtain ⟨ys,h,h2⟩:=srcL_loc h
        rcases ifB_some h with ⟨h3,h⟩|⟨_,h⟩
        ·obtain ⟨mk,xs,h,h4⟩:=objAt_loc h
         obtain ⟨zs,h,h5⟩:=stO_loc h
         exact ⟨_,[],some _,h,(fun hc=>by rw [hnc] at hc;cases hc),(fun _ h=>by cases h),fun q' ha R' C' K'=>by
          simp only [lop,ho,hb,hfl,callM,hat,hargs,ht,ht',hk1,ha.ev x hx,ha.ev y hy,ha.S hns,hv,oslOr,h1,h2,h3,h4,h5,ifB];rfl⟩
        ·cases h
       ·cases h
      ·cases h
     ·cases h
    ·cases h
   ·cases h
theorem mild_loc (hT:∀t ti,T t=some ti→tiOf P t=some ti) (hC:∀f,HSound P f (C f)) {ops:Array Oper} {o:Oper} {q:Q} (hs:mildB o=true)
  {K:LV→Option (Nat×Nat)→Q→Option R} {r:R} (h:lop T C o q K=some r) :
  ∃x U S,K x none (q.giv U S)=some r∧(calmB o=true→S=none)∧(∀t,t∈us U→t∈usedOf o)∧∀q',Agr ops o q q'→OpOk P q' o x none (q'.giv U S):=by
 by_cases hst:storeB o=true
 ·obtain ⟨hns,x,U,S,h,hc,hU,hl⟩:=store_loc (ops:=ops) hst h
  refine ⟨x,U,S,h,hc,hU,fun q' ha=>?_⟩
  have e:=hl q' ha (R':=LV×Option (Nat×Nat)×Q) (fun _ _ _ _=>none) fun x al q=>some (x,al,q)
  obtain ⟨x',al,q'',h1,h2⟩:=lop_ok hT (fun f=>noneHd f) o q' _ _ e
  simp only [Option.some.injEq,Prod.mk.injEq] at h1
  obtain ⟨rfl,rfl,rfl⟩:=h1
  exact h2
 unfold lop at h
 split at h<;>rename_i ho<;>simp only [mildB,storeB,ho] at hs hst<;>try (first|(cases hs;done)|exact absurd hs hst|exact absurd rfl hst)
 ·rename_i x
  rw [used_give,give_giv0] at h
  refine ⟨_,dups (tmpsOf [x]),none,h,fun _=>rfl,fun t ht=>by rw [us_dups] at ht;simp only [usedOf,ho];exact ht,fun q' ha=>?_⟩
  have:=ok_assign (P:=P) (q:=q') ho
  rw [used_give,give_giv0,ha.ev x (by rw [ho];simp [Op.operands])] at this
  exact this
 ·rename_i cl
  split at hs<;>try (cases hs;done)
  ·rename_i hb
   have hns:takeB o=false:=by simp [takeB,stillB,ho,hb]
   have hfl:Nat.beq (flg o) 0=true:=by simpa [hb] using hst
   have hnc:calmB o=false:=by simp [calmB,hns,ho,hb]
   have huo:usedOf o=tmpsOf o.op.operands.toList:=by simp only [usedOf,ho,hb]
   simp only [hb,hfl] at h
   have key:∃x0,x0∈o.op.operands.toList∧∃v,K v none (q.used x0)=some r∧∀q',Agr ops o q q'→∀{R':Type} (C':Nat→Hd R') (K':LV→Option (Nat×Nat)→Q→Option R'),lop T C' o q' K'=K' v none (q'.used x0):=by
    unfold callB at h
    split at h
    ·rename_i heq _ _;cases heq
    ·rename_i t t' x y _ hat hargs
     have hx:x∈o.op.operands.toList:=by rw [ho];simp only [Op.operands,Call.operands,hb];simp [hargs]
     have hy:y∈o.op.operands.toList:=by rw [ho];simp only [Op.operands,Call.operands,hb];simp [hargs]
     refine ⟨x,hx,?_⟩
     split at h
     ·rename_i ti ti' ht ht'
      split at h
      ·rename_i h1
       split at h
       ·rename_i z ys hv
        rcases ifB_some h with ⟨h4,h⟩|⟨_,h⟩
        ·obtain ⟨xs,h,hxs⟩:=srcL_loc h
         unfold app at h
         rcases ifB_some h with ⟨h5,h⟩|⟨_,h⟩
         ·exact ⟨_,h,fun q' ha R' C' K'=>by simp only [lop,ho,hb,hfl,callB,hat,hargs,ht,ht',h1,ha.ev x hx,ha.ev y hy,hv,h4,hxs,app,h5,ifB]⟩
         ·cases h
        ·cases h
       ·rename_i hv
        obtain ⟨xs,h,hxs⟩:=srcL_loc h
        unfold app at h
        rcases ifB_some h with ⟨h5,h⟩|⟨_,h⟩
        ·exact ⟨_,h,fun q' ha R' C' K'=>by simp only [lop,ho,hb,hfl,callB,hat,hargs,ht,ht',h1,ha.ev x hx,ha.ev y hy,hv,hxs,app,h5,ifB]⟩
        ·cases h
       ·cases h
      ·cases h
     ·cases h
    ·rename_i heq _;cases heq
    ·cases h
   obtain ⟨x0,hx0,v,h,hl⟩:=key
   rw [used_give,give_giv] at h
   refine ⟨v,_,some q.S,h,(fun h=>by rw [hnc] at h;cases h),fun t ht=>?_,fun q' ha=>?_⟩
   ·rw [huo]
    rw [us_dups] at ht
    cases x0<;>simp only [tmpsOf,List.filterMap_cons,List.filterMap_nil,List.mem_cons,List.not_mem_nil,or_false] at ht
    subst ht
    exact List.mem_filterMap.2 ⟨_,hx0,rfl⟩
   ·have e:=hl q' ha (R':=LV×Option (Nat×Nat)×Q) (fun _ _ _ _=>none) fun x al q=>some (x,al,q)
    obtain ⟨x,al,q'',h1,h2⟩:=lop_ok hT (fun f=>noneHd f) o q' _ _ e
    simp only [Option.some.injEq,Prod.mk.injEq] at h1
    obtain ⟨rfl,rfl,rfl⟩:=h1
    rw [used_give,ha.S hns,give_giv] at h2
    exact h2
  ·rename_i hb
   simp only [hb] at hst
   exact absurd hs hst
  ·rename_i hb
   simp only [hb] at hst
   exact absurd hs hst
  ·rename_i x hb
   have hns:takeB o=false:=by simp [takeB,stillB,ho,hb]
   have hnc:calmB o=false:=by simp [calmB,hns,ho,hb]
   have huo:usedOf o=tmpsOf o.op.operands.toList:=by simp only [usedOf,ho,hb]
   simp only [hb] at h
   obtain ⟨f,cs,hx,h⟩:=asFn_some h
   obtain ⟨hen,v,S',hc,h⟩:=hC (funV f) _ _ _ _ h
   obtain ⟨callee,as,ts⟩:=cl
   simp only at hb
   subst hb
   have hops:∀y,y∈as.toList→y∈o.op.operands.toList:=fun y hy=>by rw [ho];simp only [Op.operands,Call.operands];simp [by simpa using hy]
   have hxo:x∈o.op.operands.toList:=by rw [ho];simp only [Op.operands,Call.operands];simp
   simp only [takes_give] at h
   have hg:∀q0:Q,{ q0.give (tmpsOf as.toList) q0.S with S:=S' } = q0.giv (dups (tmpsOf as.toList)) (some S'):=fun q0=>by rw [give_giv];rfl
   rw [hg] at h
   refine ⟨v,dups (tmpsOf as.toList),some S',h,(fun h=>by rw [hnc] at h;cases h),fun t ht=>?_,fun q' ha=>?_⟩
   ·rw [huo]
    rw [us_dups] at ht
    obtain ⟨y,hy,hy'⟩:=List.mem_filterMap.1 ht
    exact List.mem_filterMap.2 ⟨y,hops y hy,hy'⟩
   ·have hc':LCalls P (funV f) (argsV f (takes as.toList q').1 cs) q'.S v S':=by
     rw [takes_congr as.toList q q' (fun y hy=>ha.ev y (hops y hy)),ha.S hns];exact hc
    have:=ok_call (P:=P) (q:=q') ho ((ha.ev x hxo).trans hx) hen hc'
    rw [takes_give] at this
    rw [←hg]
    exact this
end
end Go.Lm
namespace Go.Lm
section
variable {R:Type} {P:Program} {T:Nat→Option TI} {C:Nat→Hd R}
theorem getD_set_or' (S:List LV) (h id:Nat) (x:LV):(S.set h x).getD id .any=if id=h∧h<S.length then x else S.getD id .any:=by
 by_cases e:id=h
 ·subst e
  by_cases hl:id<S.length
  ·rw [if_pos ⟨rfl,hl⟩];exact getD_set_self _ _ _ hl
  ·rw [if_neg (fun e=>hl e.2),List.set_eq_of_length_le (Nat.le_of_not_lt hl)]
 ·rw [if_neg (fun h=>e h.1)];exact getD_set_other _ _ e
theorem LCalls.hide {f:FuncId} {args S S₁:List LV} {v:LV} {h:Nat} (hc:LCalls P f args (S.set h .any) v S₁) (hl:h<S₁.length) {S2:List LV} (hS:S2.set h .any=S.set h .any) :
  LCalls P f args S2 v (S₁.set h (S2.getD h .any)):=by
 intro c vs o hvl hvr hsto hsep hlt
 rw [←hS] at hc
 let o0:Ow:=upd o (.sto h) []
 have sub:∀k g,g∈o0 k→g∈o k∧k≠.sto h:=fun k g hg=>by
  simp only [o0,upd] at hg
  split at hg
  ·simp at hg
  ·rename_i hk;exact ⟨hg,hk⟩
 refine (hc c vs o0 hvl (fun i hi=>?_) ⟨by rw [List.length_set];exact hsto.n,fun id hid=>?_,hsto.bd⟩ (hsep.drop _) (fun k g hg=>hlt k g (sub k g hg).1)).mono ?_
 ·show Rep c _ _ (upd o (.sto h) [] (.arg i))
  rw [upd_other _ _ (by simp)];exact hvr i hi
 ·rw [List.length_set] at hid
  rw [getD_set_or']
  split
  ·exact (show Rep c .any _ (o0 (.sto id)) from by rename_i e;rw [e.1];show Rep c .any _ (upd o (.sto h) [] (.sto h));rw [upd_same];exact .any _)
  ·rename_i e
   have hne:id≠h:=fun e1=>e ⟨e1,e1▸hid⟩
   show Rep c _ _ (upd o (.sto h) [] (.sto id))
   rw [upd_other _ _ (by simpa using hne)]
   exact hsto.r id hid
 ·rintro e w' ⟨c',u,o',he,hw,hext,hrep,hsto',hsep',hown,henv⟩
  have hn:S2.length≤S₁.length:=by
   have h1:=hext.n
   have h2:=hsto.n
   have h3:=hsto'.n
   omega
  by_cases hlS:h<S2.length
  ·
   have hO:∀g,g∈o (.sto h)→¬ ∃k,g∈o0 k:=fun g hg ⟨k,hk⟩=>hsep.dj (.sto h) k g (fun e=>(sub k g hk).2 e.symm) hg (sub k g hk).1
   have hO':∀k g,g∈o' k→g∉o (.sto h):=fun k g hg hg'=>by
    rcases (hown k g hg).2 with h1|h1
    ·exact hO g hg' h1
    ·have:=hlt _ g hg';omega
   refine ⟨c',u,upd o' (.sto h) (o (.sto h)),he,hw,hext.mono (fun b ⟨k,hk⟩=>⟨k,(sub k b hk).1⟩),?_,⟨by rw [List.length_set];exact hsto'.n,fun id hid=>?_,hsto'.bd⟩,⟨fun k=>?_,fun k k' g hne hg hg'=>?_⟩,fun k g hg=>?_,fun t=>?_⟩
   ·rw [upd_other _ _ (by simp)];exact hrep
   ·rw [List.length_set] at hid
    rw [getD_set_or']
    split
    ·rename_i e
     rw [e.1,upd_same,hext.ι h (by rw [hsto.n];exact hlS)]
     exact (hsto.r h hlS).ext hext hO
    ·rename_i e
     have hne:id≠h:=fun e1=>e ⟨e1,hl⟩
     rw [upd_other _ _ (by simpa using hne)]
     exact hsto'.r id hid
   ·unfold upd;split
    ·exact hsep.nd _
    ·exact hsep'.nd k
   ·unfold upd at hg hg'
    split at hg
    ·split at hg'
     ·rename_i e1 e2;exact hne (e1.trans e2.symm)
     ·exact hO' k' g hg' hg
    ·split at hg'
     ·exact hO' k g hg hg'
     ·exact hsep'.dj k k' g hne hg hg'
   ·unfold upd at hg
    split at hg
    ·exact ⟨by have:=hlt _ g hg;have:=hext.size;rw [←hw];omega,.inl ⟨_,hg⟩⟩
    ·refine ⟨(hown k g hg).1,?_⟩
     rcases (hown k g hg).2 with ⟨k',h1⟩|h1
     ·exact .inl ⟨k',(sub k' g h1).1⟩
     ·exact .inr h1
   ·rw [upd_other _ _ (by simp)];exact henv t
  ·have hany:S2.getD h .any = .any:=by simp [List.getD_eq_getElem?_getD,List.getElem?_eq_none (Nat.le_of_not_lt hlS)]
   rw [hany]
   have sub':∀k g,g∈upd o' (.sto h) [] k→g∈o' k:=fun k g hg=>by
    simp only [upd] at hg
    split at hg
    ·simp at hg
    ·exact hg
   refine ⟨c',u,upd o' (.sto h) [],he,hw,hext.mono (fun b ⟨k,hk⟩=>⟨k,(sub k b hk).1⟩),?_,⟨by rw [List.length_set];exact hsto'.n,fun id hid=>?_,hsto'.bd⟩,hsep'.drop _,fun k g hg=>?_,fun t=>?_⟩
   ·rw [upd_other _ _ (by simp)];exact hrep
   ·rw [List.length_set] at hid
    rw [getD_set_or']
    split
    ·rename_i e
     rw [e.1,upd_same];exact .any _
    ·rename_i e
     have hne:id≠h:=fun e1=>e ⟨e1,hl⟩
     rw [upd_other _ _ (by simpa using hne)]
     exact hsto'.r id hid
   ·refine ⟨(hown k g (sub' k g hg)).1,?_⟩
    rcases (hown k g (sub' k g hg)).2 with ⟨k',h1⟩|h1
    ·exact .inl ⟨k',(sub k' g h1).1⟩
    ·exact .inr h1
   ·rw [upd_other _ _ (by simp)];exact henv t
def HidC (P:Program) (h:Nat) (C:Nat→Hd R):Prop :=
 ∀f args S K r,C f args S K=some r→Enters P f∧∃(v:LV) (S₁:List LV),K v (S₁.set h (S.getD h .any))=some r∧h<S₁.length∧∀S2,S2.set h .any=S.set h .any→LCalls P f args S2 v (S₁.set h (S2.getD h .any))
theorem hideC_hid {h:Nat} (hC:∀f,HSound P f (C f)):HidC P h (hideC h C):=by
 intro f args S K r hh
 unfold hideC at hh
 obtain ⟨hen,v,S',hc,hk⟩:=hC f _ _ _ _ hh
 unfold hidR at hk
 rcases ifB_some hk with ⟨h1,hk⟩|⟨_,hk⟩
 ·have h1:h<S'.length:=Nat.le_of_ble_eq_true h1
  exact ⟨hen,v,S',hk,h1,fun S2 hS=>hc.hide h1 hS⟩
 ·cases hk
theorem hideC_ok {h:Nat} (hC:∀f,HSound P f (C f)):∀f,HSound P f (hideC h C f):=fun f args S K r hh=>by
 obtain ⟨hen,v,S₁,hk,_,hc⟩:=hideC_hid (h:=h) hC f args S K r hh
 exact ⟨hen,v,_,hc S rfl,hk⟩
def QuietC (P:Program) (C:Nat→Hd R):Prop :=
 ∀f args S K r,C f args S K=some r→Enters P f∧∃v:LV,K v S=some r∧LCalls P f args S v S
theorem quietC_quiet (hC:∀f,HSound P f (C f)):QuietC P (quietC C):=by
 intro f args S K r hh
 unfold quietC at hh
 obtain ⟨hen,v,S',hc,hk⟩:=hC f _ _ _ _ hh
 unfold quiR at hk
 split at hk
 ·rename_i e;subst e;exact ⟨hen,v,hk,hc⟩
 ·cases hk
theorem quietC_ok (hC:∀f,HSound P f (C f)):∀f,HSound P f (quietC C f):=fun f args S K r hh=>by
 obtain ⟨hen,v,hk,hc⟩:=quietC_quiet hC f args S K r hh
 exact ⟨hen,v,S,hc,hk⟩
theorem quiR_at (S:List LV) (K:List LV→Option R):quiR S S K=K S:=by unfold quiR;rw [if_pos rfl]
end
end Go.Lm
namespace Go.Lm
section
variable {R:Type} {P:Program} {T:Nat→Option TI} {C:Nat→Hd R} {md:Region.Mode} {ops:Array Oper} {D:List Nat} {qm:Bool} {hd:Option Nat}
def Q.giw (q:Q) (U:Acts) (F:List LV→List LV):Q:={ q with E:=actAt U q.E,S:=F q.S }
def isCallV (o:Oper):Bool:=match o.op with
 | .call c=>(match c.callee with
  | .value _=>true
  |_=>false)
 |_=>false
def calmX (qm:Bool) (o:Oper):Bool:=calmB o||(qm&&isCallV o)
def isLdS (o:Oper):Bool:=match o.op with
 | .load _ _=>!(Nat.beq (flg o) 0)
 |_=>false
def HF (h:Nat) (F:List LV→List LV):Prop:=∀S,h<S.length→(∀X,F (S.set h X)=(F S).set h X)∧h<(F S).length∧(F S).getD h .any=S.getD h .any
theorem Agr.refl (ops:Array Oper) (o:Oper) (q:Q):Agr ops o q q:=⟨fun _ _=>rfl,fun _ _=>rfl,fun _ _ _ _ _=>rfl,fun _ _ _ _ _=>rfl,fun _=>rfl,fun _ _=>rfl⟩
theorem Agr.symm {o:Oper} {q q':Q} (h:Agr ops o q q'):Agr ops o q' q :=
 ⟨fun x hx=>(h.ev x hx).symm,fun x hx=>(h.addr x hx).symm,fun x hx d p hd=>(h.box x hx d p (by rw [←h.addr x hx];exact hd)).symm,fun j w hg d hd=>(h.gd j w hg d hd).symm,fun hs=>(h.S hs).symm,fun t ht=>(h.al t ht).symm⟩
theorem Agr.trans {o:Oper} {q q' q'':Q} (h:Agr ops o q q') (h':Agr ops o q' q''):Agr ops o q q'' :=
 ⟨fun x hx=>(h'.ev x hx).trans (h.ev x hx),fun x hx=>(h'.addr x hx).trans (h.addr x hx),fun x hx d p hd=>(h'.box x hx d p (by rw [h.addr x hx];exact hd)).trans (h.box x hx d p hd),
  fun j w hg d hd=>(h'.gd j w hg d hd).trans (h.gd j w hg d hd),fun hs=>(h'.S hs).trans (h.S hs),fun t ht=>(h'.al t ht).trans (h.al t ht)⟩
structure Inv (D:List Nat) (q:Q):Prop where
 al:∀t b p,q.A.getD t none=some (b,p)→b∉D
theorem okX_al {x:LV} {b p:Nat} (h:okX D x (some (b,p))=true):b∉D:=by
 simp only [okX,Bool.not_eq_true'] at h
 intro hb
 rw [List.contains_iff_mem.2 hb] at h
 exact absurd h (by simp)
theorem clearA_id {d:Nat}:∀{A:List (Option (Nat×Nat))},(∀t b p,A.getD t none=some (b,p)→b≠d)→clearA d A=A
 |[],_=>rfl
 |none::A,h=>by rw [clearA,clearA_id fun t b p hb=>h (t+1) b p (by simpa using hb)]
 |some (b,p)::A,h=>by
  have h0:=h 0 b p rfl
  rw [clearA,clearA_id fun t b p hb=>h (t+1) b p (by simpa using hb)]
  have:Nat.beq b d=false:=by
   cases hb:Nat.beq b d
   ·rfl
   ·exact absurd (Nat.eq_of_beq_eq_true hb) h0
  rw [this]
theorem alOk_some {d b p:Nat} {al:Option (Nat×Nat)} (h:alOk d al=some (b,p)):al=some (b,p):=by
 cases al with
 |none=>cases h
 |some z =>
  obtain ⟨z1,z2⟩:=z
  simp only [alOk] at h
  split at h
  ·cases h
  ·exact h
theorem getD_set_or {α:Type} (l:List α) (d s:Nat) (v z:α):(l.set d v).getD s z=l.getD s z∨(s=d∧(l.set d v).getD s z=v):=by
 by_cases h:s=d
 ·subst h
  by_cases hl:s<l.length
  ·right;simp [List.getD_eq_getElem?_getD,hl]
  ·left;rw [List.set_eq_of_length_le (Nat.le_of_not_lt hl)]
 ·left;simp only [List.getD_eq_getElem?_getD,List.getElem?_set_ne (Ne.symm h)]
theorem Inv.giw {q:Q} (h:Inv D q) (U:Acts) (F:List LV→List LV):Inv D (q.giw U F):=⟨h.al⟩
theorem Inv.put {q:Q} (h:Inv D q) {x:LV} {al:Option (Nat×Nat)} (hx:okX D x al=true) (d:Option Tmp):Inv D (q.put d x al):=by
 cases d with
 |none=>exact h
 |some d =>
  refine ⟨fun t b p hb=>?_⟩
  simp only [Q.put] at hb
  rcases getD_set_or (clearA d q.A) d t (alOk d al) none with h1|⟨_,h1⟩
  ·rw [h1] at hb;exact h.al t b p (clearA_get d _ t b p hb).1
  ·rw [h1] at hb;have:=alOk_some hb;subst this;exact okX_al hx
theorem put_comm {q:Q} (h:Inv D q) {di dj:Option Tmp} {xi xj:LV} {ai aj:Option (Nat×Nat)} {V U:Acts} {G F:List LV→List LV} (hi:okX D xi ai=true) (hj:okX D xj aj=true)
  (hdi:∀d,di=some d→d∈D∧d∉us U∧dj≠some d) (hdj:∀d,dj=some d→d∈D∧d∉us V) (hUV:∀t,t∈us U→t∉us V) (hGF:F (G q.S)=G (F q.S)) :
  (((q.giw V G).put di xi ai).giw U F).put dj xj aj=(((q.giw U F).put dj xj aj).giw V G).put di xi ai:=by
 cases di with
 |none =>
  cases dj with
  |none=>simp only [Q.put,Q.giw,actAt_comm U V q.E hUV,hGF]
  |some d'=>simp only [Q.put,Q.giw,actAt_comm U V q.E hUV,actAt_set V _ d' xj (hdj d' rfl).2,hGF]
 |some d =>
  obtain ⟨h1,h2,h3⟩:=hdi d rfl
  have e1:clearA d q.A=q.A:=clearA_id fun t b p hb e=>h.al t b p hb (e▸h1)
  cases dj with
  |none =>
   simp only [Q.put,Q.giw,actAt_set U _ d xi h2,actAt_comm U V q.E hUV,hGF]
  |some d' =>
   have h4:d'≠d:=fun e=>h3 (by rw [e])
   have h5:=(hdj d' rfl).1
   have h6:=(hdj d' rfl).2
   have e2:clearA d' q.A=q.A:=clearA_id fun t b p hb e=>h.al t b p hb (e▸h5)
   have key:∀(z y:Nat) (al:Option (Nat×Nat)) (x:LV),y∈D→okX D x al=true→clearA y (q.A.set z (alOk z al))=q.A.set z (alOk z al):=fun z y al x hy hx=>clearA_id fun t b p hb e=>by
    rcases getD_set_or q.A z t (alOk z al) none with h1|⟨_,h1⟩
    ·rw [h1] at hb;exact h.al t b p hb (e▸hy)
    ·rw [h1] at hb;have:=alOk_some hb;subst this;exact okX_al hx (e▸hy)
   simp only [Q.put,Q.giw,actAt_set U _ d xi h2,actAt_set V _ d' xj h6,actAt_comm U V q.E hUV,e1,e2,key d d' ai xi h5 hi,key d' d aj xj h1 hj,hGF]
   rw [List.set_comm _ _ h4,List.set_comm _ _ h4]
theorem looks_tmp {o:Oper} {t:Nat} (h:Operand.tmp t∈o.op.operands.toList):t∈o.looksAt ops :=
 List.mem_append.2 (.inl (List.mem_filterMap.2 ⟨_,h,rfl⟩))
theorem looks_gd {o:Oper} {j:Nat} {w:Bool} {d:Nat} (hg:o.guard=some (j,w)) (hd:(ops[j]?).bind (·.dst)=some d):d∈o.looksAt ops :=
 List.mem_append.2 (.inr (by simp only [hg,hd];simp))
theorem agr_frame {o:Oper} {q:Q} (h:Inv D q) {d:Option Tmp} {x:LV} {al:Option (Nat×Nat)} {U:Acts} {F:List LV→List LV} (hU:∀t,t∈us U→t∈D∧t∉o.looksAt ops) (hd:∀t,d=some t→t∈D∧t∉o.looksAt ops)
  (hS:takeB o=true∨F q.S=q.S):Agr ops o q ((q.giw U F).put d x al):=by
 have hE:∀t,t∉us U→(∀s,d=some s→t≠s)→((q.giw U F).put d x al).E.getD t .any=q.E.getD t .any:=fun t h1 h2=>by
  cases d with
  |none=>exact actAt_ne U q.E t h1
  |some s =>
   show ((actAt U q.E).set s x).getD t .any=_
   rcases getD_set_or (actAt U q.E) s t x .any with h3|⟨h3,_⟩
   ·rw [h3];exact actAt_ne U q.E t h1
   ·exact absurd h3 (h2 s rfl)
 have hL:∀t,t∈o.looksAt ops→((q.giw U F).put d x al).E.getD t .any=q.E.getD t .any:=fun t ht=>hE t (fun hu=>(hU t hu).2 ht) fun s hs e=>(hd s hs).2 (e▸ht)
 have hA:∀t,t∈o.looksAt ops→((q.giw U F).put d x al).A.getD t none=q.A.getD t none:=fun t ht=>by
  cases d with
  |none=>rfl
  |some s =>
   show ((clearA s q.A).set s (alOk s al)).getD t none=_
   rw [clearA_id fun t b p hb e=>h.al t b p hb (e▸(hd s rfl).1)]
   rcases getD_set_or q.A s t (alOk s al) none with h3|⟨h3,_⟩
   ·exact h3
   ·exact absurd (h3▸ht) (hd s rfl).2
 refine ⟨fun y hy=>?_,fun y hy=>?_,fun y hy b p hb=>?_,fun j w hg s hs=>hL s (looks_gd hg hs),fun hs=>?_,fun t ht=>hA t (looks_tmp ht)⟩
 ·cases y with
  |tmp t=>exact hL t (looks_tmp hy)
  |_=>rfl
 ·cases y with
  |tmp t=>simp only [Q.addr,hA t (looks_tmp hy),hL t (looks_tmp hy)]
  |_=>rfl
 ·have hb':b∉us U∧∀s,d=some s→b≠s:=by
   cases y with
   |tmp t =>
    simp only [Q.addr] at hb
    split at hb
    ·rename_i z hz
     cases hb
     have h1:=h.al t b p hz
     exact ⟨fun hu=>h1 (hU b hu).1,fun s hs e=>h1 (e▸(hd s hs).1)⟩
    ·split at hb
     ·cases hb
      have h1:=looks_tmp (ops:=ops) hy
      exact ⟨fun hu=>(hU _ hu).2 h1,fun s hs e=>(hd s hs).2 (e▸h1)⟩
     ·cases hb
   |_=>cases hb
  unfold boxAt
  rw [hE b hb'.1 hb'.2]
 ·rcases hS with h1|h1
  ·rw [h1] at hs;cases hs
  ·cases d<;>exact h1
def StepAt (P:Program) (ops:Array Oper) (o:Oper) (q q1:Q):Prop :=
 ∀(fr:Fr) (a:Act) (c:Cx),Rel fr q a c→∀(next:Act→World→Prop) (Qp:Exit→Act→World→Prop),(∀a' c',Rel fr q1 a' c'→next a' c'.w) →
  if Region.wanted o (yielded ops a.tmps)=true then o.wp P a c.w next Qp else next (a.put o.dst undef) c.w
def LStep (P:Program) (ops:Array Oper) (D:List Nat) (qm:Bool) (hd:Option Nat) (o:Oper) (q q1:Q):Prop :=
 ∃x al U F,q1=(q.giw U F).put o.dst x al∧okX D x al=true∧(∀t,t∈us U→t∈usedOf o)∧(calmX qm o=true→F=id)∧(∀q',Agr ops o q q'→StepAt P ops o q' ((q'.giw U F).put o.dst x al)) ∧
  ∀h,hd=some h→isCallV o=true→HF h F∧∀q',Agr ops o q { q' with S:=q.S }→q'.S.set h .any=q.S.set h .any→StepAt P ops o q' ((q'.giw U F).put o.dst x al)
def LA (P:Program) (md:Region.Mode) (ops:Array Oper) (D:List Nat) (qm:Bool) (hd:Option Nat) (qf:Q):Nat→Array Bool→Q→Prop
 |0,listed,q=>Region.ready md ops listed=[]∧q=qf
 |n+1,listed,q=>(Region.ready md ops listed=[]→q=qf) ∧
  ∀i∈Region.ready md ops listed,∃o,ops[i]? = some o∧∃q1,StepAt P ops o q q1∧(softB o=true→LStep P ops D qm hd o q q1)∧LA P md ops D qm hd qf n (listed.setIfInBounds i true) q1
theorem LA_wp {qf:Q}:∀(n:Nat) (listed:Array Bool) (q:Q),LA P md ops D qm hd qf n listed q→∀{fr:Fr} {a:Act} {c:Cx},Rel fr q a c→∀{Qp:Exit→Act→World→Prop},(∀a' c',Rel fr qf a' c'→Qp .normal a' c'.w)→wpAny P md ops Qp n listed a c.w
 |0,listed,q,h,fr,a,c,hr,Qp,hQ=>⟨h.1,hQ a c (h.2▸hr)⟩
 |n+1,listed,q,h,fr,a,c,hr,Qp,hQ=>by
  refine ⟨fun h0=>hQ a c (h.1 h0▸hr),fun i hi=>?_⟩
  obtain ⟨o,ho,q1,hs,_,hla⟩:=h.2 i hi
  have:=hs fr a c hr (wpAny P md ops Qp n (listed.setIfInBounds i true)) Qp (fun a' c' hr'=>LA_wp n _ q1 hla hr' hQ)
  unfold wpOp
  simp only [ho]
  split
  ·rename_i hw;rw [if_pos hw] at this;exact .inl this
  ·rename_i hw;rw [if_neg hw] at this;exact this
theorem used_looks {o:Oper} {t:Nat} (h:t∈usedOf o):t∈o.looksAt ops:=by
 have key:t∈tmpsOf o.op.operands.toList→t∈o.looksAt ops:=fun h=>by
  obtain ⟨y,hy,hy'⟩:=List.mem_filterMap.1 h
  cases y<;>simp at hy'
  subst hy'
  exact looks_tmp hy
 unfold usedOf at h
 split at h
 ·rename_i x ho;exact key (by rw [ho];simpa [Op.operands] using h)
 ·rename_i x y ho
  split at h
  ·refine key ?_
   rw [ho]
   cases x<;>simp only [tmpsOf,List.filterMap_cons,List.filterMap_nil,List.mem_cons,List.not_mem_nil,or_false] at h
   subst h
   exact List.mem_filterMap.2 ⟨.tmp t,by simp [Op.operands],rfl⟩
  split at h
  ·refine key ?_
   rw [ho]
   cases y<;>simp only [tmpsOf,List.filterMap_cons,List.filterMap_nil,List.mem_cons,List.not_mem_nil,or_false] at h
   subst h
   exact List.mem_filterMap.2 ⟨.tmp t,by simp [Op.operands],rfl⟩
  ·cases h
 ·split at h
  ·cases h
  ·exact key h
 ·cases h
theorem put_S (q:Q) (V:Acts) (F:List LV→List LV) (d:Option Tmp) (x:LV) (al:Option (Nat×Nat)):((q.giw V F).put d x al).S=F q.S:=by cases d<;>rfl
theorem calm_call {o:Oper} (h:calmB o=true):isCallV o=false:=by
 cases hc:isCallV o with
 |false=>rfl
 |true =>
  unfold isCallV at hc
  split at hc
  ·rename_i c ho
   split at hc
   ·rename_i x hb;simp [calmB,takeB,stillB,ho,hb] at h
   ·cases hc
  ·cases hc
theorem calm_no {o:Oper} {h:Nat} {X:Prop} (hc:calmX qm o=true) (hqm:qm=true→hd=none) (hh:hd=some h) (hcv:isCallV o=true):X:=by
 exfalso
 unfold calmX at hc
 rw [Bool.or_eq_true] at hc
 rcases hc with hc|hc
 ·rw [calm_call hc] at hcv;cases hcv
 ·rw [Bool.and_eq_true] at hc
  rw [hqm hc.1] at hh;cases hh
theorem calm_x {o:Oper} (h:calmB o=true):calmX qm o=true:=by unfold calmX;rw [h];rfl
theorem x_calm {o:Oper} (h:calmX qm o=true) (hn:¬ (qm=true∧isCallV o=true)):calmB o=true:=by
 unfold calmX at h
 rw [Bool.or_eq_true,Bool.and_eq_true] at h
 exact h.resolve_right hn
theorem LA_first {qf:Q} {i:Nat} {oi:Oper} {xi:LV} {ai:Option (Nat×Nat)} {V:Acts} {B:List Nat} (hi:ops[i]? = some oi) (hcalm:calmX qm oi=true) (hqm:qm=true→hd=none) (hV:∀t,t∈us V→t∈usedOf oi) (hD:∀(j:Nat) (o:Oper) (d:Nat),ops[j]? = some o→o.dst=some d→d∈D) (hU:∀(j:Nat) (o:Oper),ops[j]? = some o→∀t,t∈usedOf o→t∈D) (hx:okX D xi ai=true)
  (hB:∀b,b∈B→∃ob,ops[b]? = some ob∧∃e∈ob.after,Region.binds md e=true∧(e.on=i∨e.on∈B)) :
  ∀(n:Nat) (listed:Array Bool) (q:Q),(∀b,b∈B→listed.getD b true=false) →
   (∀j oj,ops[j]? = some oj→j≠i→listed.getD j true=false→j∉B→oi.apart ops oj=true∧softB oj=true∧(∀t,t∈usedOf oj→t∉oi.looksAt ops)∧(∀t,t∈usedOf oi→t∉oj.looksAt ops∧oj.dst≠some t)∧(takeB oi=true∨calmX qm oj=true)) →
   i∈Region.ready md ops listed→Inv D q→(∀q',Agr ops oi q q'→StepAt P ops oi q' ((q'.giw V id).put oi.dst xi ai)) →
   LA P md ops D qm hd qf n (listed.setIfInBounds i true) ((q.giw V id).put oi.dst xi ai)→LA P md ops D qm hd qf (n+1) listed q:=by
 intro n
 induction n with
 |zero =>
  intro listed q hBl hfree hr hinv hv H
  refine ⟨fun h=>(by rw [h] at hr;cases hr),fun j hj=>?_⟩
  by_cases hji:j=i
  ·subst hji;exact ⟨oi,hi,_,hv q (Agr.refl _ _ _),fun _=>⟨xi,ai,V,id,rfl,hx,hV,fun _=>rfl,fun q' ha=>hv q' ha,fun h hh hcv=>calm_no hcalm hqm hh hcv⟩,H⟩
  ·have:=ready_mono hj hji
   rw [H.1] at this
   cases this
 |succ n ih =>
  intro listed q hBl hfree hr hinv hv H
  refine ⟨fun h=>(by rw [h] at hr;cases hr),fun j hj=>?_⟩
  by_cases hji:j=i
  ·subst hji;exact ⟨oi,hi,_,hv q (Agr.refl _ _ _),fun _=>⟨xi,ai,V,id,rfl,hx,hV,fun _=>rfl,fun q' ha=>hv q' ha,fun h hh hcv=>calm_no hcalm hqm hh hcv⟩,H⟩
  ·obtain ⟨hjun,oj,hoj,hall⟩:=mem_ready.1 hj
   have unl:∀k,listed.getD k true=false→∀e∈oj.after,Region.binds md e=true→e.on≠k:=fun k h0 e he hb heq=>by
    have h1:=hall e he hb
    rw [heq] at h1
    rcases Nat.lt_or_ge k listed.size with h'|h'
    ·simp [h'] at h0 h1;rw [h0] at h1;cases h1
    ·simp [Array.getElem?_eq_none h'] at h1
   have hjB:j∉B:=fun hb=>by
    obtain ⟨ob,hob,e,he,hbd,hor⟩:=hB j hb
    rw [hoj] at hob;cases hob
    rcases hor with h|h
    ·exact unl i (mem_ready.1 hr).1 e he hbd h
    ·exact unl e.on (hBl _ h) e he hbd rfl
   obtain ⟨hap,hsoft,hun,hvn,hcm⟩:=hfree j oj hoj hji hjun hjB
   obtain ⟨a1,a2,a3⟩:=Oper.apart_spec hap
   obtain ⟨oj',hoj',q1,_,hl,hla⟩:=H.2 j (ready_mono hj hji)
   rw [hoj] at hoj'
   cases hoj'
   obtain ⟨x,al,U,F,hq1,hxo,hUo,hSn,hloc,hlocH⟩:=hl hsoft
    
   have agj:Agr ops oj q ((q.giw V id).put oi.dst xi ai):=agr_frame hinv (fun t ht=>⟨hU i oi hi t (hV t ht),(hvn t (hV t ht)).1⟩) (fun t ht=>⟨hD i oi t hi ht,a1 t ht⟩) (.inr rfl)
   have agi:Agr ops oi q ((q.giw U F).put oj.dst x al):=agr_frame hinv (fun t ht=>⟨hU j oj hoj t (hUo t ht),hun t (hUo t ht)⟩) (fun t ht=>⟨hD j oj t hoj ht,a3 t ht⟩) (hcm.imp (fun h=>h) fun h=>by rw [hSn h];rfl)
   have hloc':∀q',Agr ops oj q q'→StepAt P ops oj q' ((q'.giw U F).put oj.dst x al):=fun q' ha=>hloc q' (agj.symm.trans ha)
   have hlk:∀t,t∈us U→t∈oj.looksAt ops:=fun t ht=>used_looks (hUo t ht)
   refine ⟨oj,hoj,_,hloc' q (Agr.refl _ _ _),fun _=>⟨x,al,U,F,rfl,hxo,hUo,hSn,hloc',fun h hh hcv=>⟨(hlocH h hh hcv).1,fun q' ha hS=>(hlocH h hh hcv).2 q' (agj.symm.trans (by rw [put_S];exact ha)) (by rw [put_S];exact hS)⟩⟩,?_⟩
   refine ih (listed.setIfInBounds j true) _ (fun b hb=>by
    have hne:j≠b:=fun e=>hjB (by rw [e];exact hb)
    rw [getD_set_ne true hne];exact hBl b hb) (fun k ok hk hki hkun hno=>?_) (ready_mono hr (Ne.symm hji)) ((hinv.giw U F).put hxo oj.dst) (fun q' ha=>hv q' (agi.trans ha)) ?_
   ·refine hfree k ok hk hki ?_ hno
    by_cases hjk:j=k
    ·subst hjk;exact hjun
    ·rw [getD_set_ne true hjk] at hkun;exact hkun
   ·rw [Array.setIfInBounds_comm _ _ hji]
    rw [←put_comm (G:=id) (F:=F) hinv hx hxo (fun d hd=>⟨hD i oi d hi hd,fun hu=>a1 d hd (hlk d hu),a2 d hd⟩) (fun d hd=>⟨hD j oj d hoj hd,fun hu=>(hvn d (hV d hu)).2 hd⟩) (fun t ht hv=>(hvn t (hV t hv)).1 (hlk t ht)) rfl,←hq1]
    exact hla
theorem Agr.reS {o:Oper} {q q':Q} (h:Agr ops o q q') (S:List LV):Agr ops o { q with S:=S } { q' with S:=S } :=
 ⟨h.ev,h.addr,h.box,h.gd,fun _=>rfl,h.al⟩
theorem put_reS (q:Q) (V:Acts) (F G:List LV→List LV) (d:Option Tmp) (x:LV) (al:Option (Nat×Nat)):({ (q.giw V F).put d x al with S:=G q.S }:Q)=(q.giw V G).put d x al:=by cases d<;>rfl
theorem ld_take {o:Oper} (h:isLdS o=true):takeB o=false∧isCallV o=false:=by
 unfold isLdS at h
 split at h
 ·rename_i t x ho
  simp only [Bool.not_eq_true'] at h
  simp [takeB,stillB,isCallV,ho,h]
 ·cases h
theorem take_calm {o:Oper} (h:takeB o=true):calmB o=true:=by unfold calmB;rw [h];rfl
theorem call_take {o:Oper} (h:isCallV o=true):takeB o=false:=by
 cases ht:takeB o with
 |false=>rfl
 |true=>rw [calm_call (take_calm ht)] at h;cases h
theorem LA_ldH {qf:Q} {i h:Nat} {oi:Oper} {xi:LV} {G:List LV→List LV} {B:List Nat} (hi:ops[i]? = some oi) (hld:isLdS oi=true) (hhd:hd=some h) (hG:G=id∨∃X,G=fun S=>S.set h X) (hcG:calmB oi=true→G=id)
  (hD:∀(j:Nat) (o:Oper) (d:Nat),ops[j]? = some o→o.dst=some d→d∈D) (hU:∀(j:Nat) (o:Oper),ops[j]? = some o→∀t,t∈usedOf o→t∈D) (hx:okX D xi none=true)
  (hB:∀b,b∈B→∃ob,ops[b]? = some ob∧∃e∈ob.after,Region.binds md e=true∧(e.on=i∨e.on∈B)) :
  ∀(n:Nat) (listed:Array Bool) (q:Q),(∀b,b∈B→listed.getD b true=false) →
   (∀j oj,ops[j]? = some oj→j≠i→listed.getD j true=false→j∉B→oi.apart ops oj=true∧softB oj=true∧(∀t,t∈usedOf oj→t∉oi.looksAt ops)∧(takeB oj=true∨isCallV oj=true)) →
   i∈Region.ready md ops listed→Inv D q→(G=id∨h<q.S.length) →
   (∀q',Agr ops oi q { q' with S:=q.S }→(h<q.S.length→q'.S.getD h .any=q.S.getD h .any)→StepAt P ops oi q' ((q'.giw [] G).put oi.dst xi none)) →
   LA P md ops D qm hd qf n (listed.setIfInBounds i true) ((q.giw [] G).put oi.dst xi none)→LA P md ops D qm hd qf (n+1) listed q:=by
 obtain ⟨hnt,hnc⟩:=ld_take hld
 have hGs:∀S:List LV,(G S).set h .any=S.set h .any:=fun S=>by
  rcases hG with rfl|⟨X,rfl⟩
  ·rfl
  ·exact List.set_set ..
 have self:∀q:Q,(∀q',Agr ops oi q { q' with S:=q.S }→(h<q.S.length→q'.S.getD h .any=q.S.getD h .any)→StepAt P ops oi q' ((q'.giw [] G).put oi.dst xi none)) →
   StepAt P ops oi q ((q.giw [] G).put oi.dst xi none)∧(softB oi=true→LStep P ops D qm hd oi q ((q.giw [] G).put oi.dst xi none)):=fun q hv =>
  ⟨hv q (Agr.refl _ _ _) (fun _=>rfl),fun _=>⟨xi,none,[],G,rfl,hx,(fun _ h=>by cases h),(fun hc=>hcG (x_calm hc (fun h=>by rw [hnc] at h;cases h.2))),(fun q' ha=>hv q' (by rw [←ha.S hnt];exact ha) (fun _=>by rw [ha.S hnt])),fun h' _ hcv=>by rw [hnc] at hcv;cases hcv⟩⟩
 intro n
 induction n with
 |zero =>
  intro listed q hBl hfree hr hinv hlen hv H
  refine ⟨fun h=>(by rw [h] at hr;cases hr),fun j hj=>?_⟩
  by_cases hji:j=i
  ·subst hji;exact ⟨oi,hi,_,(self q hv).1,(self q hv).2,H⟩
  ·have:=ready_mono hj hji
   rw [H.1] at this
   cases this
 |succ n ih =>
  intro listed q hBl hfree hr hinv hlen hv H
  refine ⟨fun h=>(by rw [h] at hr;cases hr),fun j hj=>?_⟩
  by_cases hji:j=i
  ·subst hji;exact ⟨oi,hi,_,(self q hv).1,(self q hv).2,H⟩
  ·obtain ⟨hjun,oj,hoj,hall⟩:=mem_ready.1 hj
   have unl:∀k,listed.getD k true=false→∀e∈oj.after,Region.binds md e=true→e.on≠k:=fun k h0 e he hb heq=>by
    have h1:=hall e he hb
    rw [heq] at h1
    rcases Nat.lt_or_ge k listed.size with h'|h'
    ·simp [h'] at h0 h1;rw [h0] at h1;cases h1
    ·simp [Array.getElem?_eq_none h'] at h1
   have hjB:j∉B:=fun hb=>by
    obtain ⟨ob,hob,e,he,hbd,hor⟩:=hB j hb
    rw [hoj] at hob;cases hob
    rcases hor with h|h
    ·exact unl i (mem_ready.1 hr).1 e he hbd h
    ·exact unl e.on (hBl _ h) e he hbd rfl
   obtain ⟨hap,hsoft,hun,hcm⟩:=hfree j oj hoj hji hjun hjB
   obtain ⟨a1,a2,a3⟩:=Oper.apart_spec hap
   obtain ⟨oj',hoj',q1,_,hl,hla⟩:=H.2 j (ready_mono hj hji)
   rw [hoj] at hoj'
   cases hoj'
   obtain ⟨x,al,U,F,hq1,hxo,hUo,hSn,hloc,hlocH⟩:=hl hsoft
   have agj:Agr ops oj q ((q.giw [] id).put oi.dst xi none):=agr_frame hinv (fun t ht=>by cases ht) (fun t ht=>⟨hD i oi t hi ht,a1 t ht⟩) (.inr rfl)
   have agi:Agr ops oi q ((q.giw U id).put oj.dst x al):=agr_frame hinv (fun t ht=>⟨hU j oj hoj t (hUo t ht),hun t (hUo t ht)⟩) (fun t ht=>⟨hD j oj t hoj ht,a3 t ht⟩) (.inr rfl)
   have hlk:∀t,t∈us U→t∈oj.looksAt ops:=fun t ht=>used_looks (hUo t ht)
   have toi:∀q':Q,Agr ops oj q { q' with S:=q.S }→Agr ops oj ((q.giw [] G).put oi.dst xi none) { q' with S:=G q.S }:=fun q' ha=>by
    have h1:=(agj.symm.trans ha).reS (G q.S)
    rw [put_reS] at h1
    exact h1
    
   have key:(∀q',Agr ops oj q q'→StepAt P ops oj q' ((q'.giw U F).put oj.dst x al))∧(∀h',hd=some h'→isCallV oj=true→HF h' F∧∀q',Agr ops oj q { q' with S:=q.S }→q'.S.set h' .any=q.S.set h' .any→StepAt P ops oj q' ((q'.giw U F).put oj.dst x al)) ∧
     F (G q.S)=G (F q.S)∧(G=id∨h<(F q.S).length)∧(h<q.S.length→(F q.S).getD h .any=q.S.getD h .any∧h<(F q.S).length):=by
    rcases hcm with ht|hcv
    ·have hF:=hSn (calm_x (take_calm ht))
     subst hF
     refine ⟨fun q' ha=>hloc q' ⟨fun x hx=>?_,fun x hx=>?_,fun x hx=>?_,fun j w hg=>?_,(fun hs=>by rw [ht] at hs;cases hs),fun t ht=>?_⟩,(fun h' _ hcv=>by rw [calm_call (take_calm ht)] at hcv;cases hcv),rfl,hlen,fun h=>⟨rfl,h⟩⟩
     ·exact (toi q' (by have:=ha.reS q.S;exact this)).ev x hx
     ·exact (toi q' (by have:=ha.reS q.S;exact this)).addr x hx
     ·exact (toi q' (by have:=ha.reS q.S;exact this)).box x hx
     ·exact (toi q' (by have:=ha.reS q.S;exact this)).gd j w hg
     ·exact (toi q' (by have:=ha.reS q.S;exact this)).al t ht
    ·obtain ⟨hHF,hH⟩:=hlocH h hhd hcv
     have h2:∀q':Q,Agr ops oj q { q' with S:=q.S }→q'.S.set h .any=q.S.set h .any→StepAt P ops oj q' ((q'.giw U F).put oj.dst x al):=fun q' ha hS =>
      hH q' (by rw [put_S];exact toi q' ha) (by rw [put_S,hGs];exact hS)
     refine ⟨fun q' ha=>h2 q' (by have:=ha.reS q.S;exact this) (by rw [ha.S (call_take hcv)]),fun h' hh' _=>?_,?_,?_,fun hl=>⟨(hHF _ hl).2.2,(hHF _ hl).2.1⟩⟩
     ·rw [hhd] at hh';cases hh'
      exact ⟨hHF,h2⟩
     ·rcases hlen with rfl|hlq
      ·rfl
      ·rcases hG with rfl|⟨X,rfl⟩
       ·rfl
       ·exact (hHF _ hlq).1 X
     ·exact hlen.imp id fun hl=>(hHF _ hl).2.1
   obtain ⟨k1,k2,k3,k4,k5⟩:=key
   refine ⟨oj,hoj,_,k1 q (Agr.refl _ _ _),fun _=>⟨x,al,U,F,rfl,hxo,hUo,hSn,k1,k2⟩,?_⟩
   refine ih (listed.setIfInBounds j true) _ (fun b hb=>by
    have hne:j≠b:=fun e=>hjB (by rw [e];exact hb)
    rw [getD_set_ne true hne];exact hBl b hb) (fun k ok hk hki hkun hno=>?_) (ready_mono hr (Ne.symm hji)) ((hinv.giw U F).put hxo oj.dst) (by rw [put_S];exact k4) (fun q' ha hS=>?_) ?_
   ·refine hfree k ok hk hki ?_ hno
    by_cases hjk:j=k
    ·subst hjk;exact hjun
    ·rw [getD_set_ne true hjk] at hkun;exact hkun
   ·rw [put_S] at ha hS
    refine hv q' (agi.trans ?_) (fun hl=>(hS (k5 hl).2).trans (k5 hl).1)
    have h1:=ha.reS q.S
    have e:({ (q.giw U F).put oj.dst x al with S:=q.S }:Q)=(q.giw U id).put oj.dst x al:=put_reS q U F id oj.dst x al
    rw [e] at h1
    exact h1
   ·rw [Array.setIfInBounds_comm _ _ hji]
    rw [←put_comm (G:=G) (F:=F) hinv hx hxo (fun d hd=>⟨hD i oi d hi hd,fun hu=>a1 d hd (hlk d hu),a2 d hd⟩) (fun d hd=>⟨hD j oj d hoj hd,fun hu=>by cases hu⟩) (fun t ht hv=>by cases hv) k3,←hq1]
    exact hla
def blkStep (md:Region.Mode) (ops:Array Oper) (listed:Array Bool) (i:Nat) (B:List Nat) (j:Nat):List Nat:=match !(Nat.beq j i)&&!(listed.getD j true)&&(match ops[j]? with
  |some oj=>oj.after.any (fun e=>Region.binds md e&&(Nat.beq e.on i||B.any (Nat.beq e.on)))
  |none=>false) with
 |true=>j::B
 |false=>B
def blk (md:Region.Mode) (ops:Array Oper) (listed:Array Bool) (i:Nat):List Nat:=(List.range ops.size).foldl (blkStep md ops listed i) []
def blkOk (md:Region.Mode) (ops:Array Oper) (listed:Array Bool) (i:Nat) (B:List Nat):Bool:=B.all fun b=>!(listed.getD b true)&&match ops[b]? with
 |some ob=>ob.after.any fun e=>Region.binds md e&&(Nat.beq e.on i||B.any (Nat.beq e.on))
 |none=>false
def free2 (qm:Bool) (ops:Array Oper) (listed:Array Bool) (oi:Oper) (i:Nat) (B:List Nat):Bool :=
 (List.range ops.size).all fun j=>Nat.beq j i||listed.getD j true||B.any (Nat.beq j)||match ops[j]? with
  |some oj=>oi.apart ops oj&&softB oj&&((usedOf oj).all fun t=>!((oi.looksAt ops).contains t))&&((usedOf oi).all fun t=>!((oj.looksAt ops).contains t)&&!(oj.dst==some t))&&(takeB oi||calmX qm oj)
  |none=>true
def free3 (qm:Bool) (md:Region.Mode) (ops:Array Oper) (listed:Array Bool) (oi:Oper) (i:Nat) (B:List Nat):Bool:=blkOk md ops listed i B&&free2 qm ops listed oi i B
theorem any_beq {B:List Nat} {j:Nat} (h:B.any (Nat.beq j)=true):j∈B:=by
 obtain ⟨b,hb,e⟩:=List.any_eq_true.1 h
 exact Nat.eq_of_beq_eq_true e▸hb
def freeH (md:Region.Mode) (ops:Array Oper) (listed:Array Bool) (oi:Oper) (i:Nat) (B:List Nat):Bool :=
 blkOk md ops listed i B&&(List.range ops.size).all fun j=>Nat.beq j i||listed.getD j true||B.any (Nat.beq j)||match ops[j]? with
  |some oj=>oi.apart ops oj&&softB oj&&((usedOf oj).all fun t=>!((oi.looksAt ops).contains t))&&(takeB oj||isCallV oj)
  |none=>true
def chkSch (qm:Bool) (md:Region.Mode) (ops:Array Oper) (hb:Bool):List Nat→Array Bool→Bool
 |[],listed=>(Region.ready md ops listed).isEmpty
 |i::is,listed=>(match ops[i]? with
  |some o=>(match Region.ready md ops listed with|[k]=>Nat.beq k i|_=>false)||(calmX qm o&&(Region.ready md ops listed).contains i&&free3 qm md ops listed o i (blk md ops listed i)) ||
    (hb&&isLdS o&&(Region.ready md ops listed).contains i&&freeH md ops listed o i (blk md ops listed i))
  |none=>false)&&chkSch qm md ops hb is (listed.setIfInBounds i true)
def drawChk (P:Program) (ops:Array Oper) (qm hb:Bool) (is:List Nat):Bool:=P.follows .mixedOrders&&Nat.beq is.length ops.size&&chkSch qm .any ops hb is (Array.replicate ops.size false)
def gval (ops:Array Oper) (q:Q) (o:Oper):Option Bool:=match o.guard with
 |none=>some true
 |some (j,want)=>match (ops[j]?).bind (·.dst) with
  |some d=>(match q.E.getD d .any with
   | .bool b=>some (match b with|true=>want|false=>!want)
   | .und=>some false
   |_=>none)
  |none=>none
theorem set_same (E:List LV) (d:Nat) (v:LV) (h:E.getD d .any=v):E.set d v=E:=by
 rcases Nat.lt_or_ge d E.length with h1|h1
 ·have:E[d]=v:=by simpa [List.getD_eq_getElem?_getD,h1] using h
  rw [←this];exact List.set_getElem_self h1
 ·exact List.set_eq_of_length_le h1
theorem wanted_gval {o:Oper} {q:Q} {K:Bool→Q→Option R} {r:R} (h:wanted ops q o K=some r):∃b,gval ops q o=some b∧K b q=some r:=by
 unfold wanted at h
 simp only [setK_eq] at h
 unfold gval
 split at h
 ·rename_i hg
  simp only [hg]
  exact ⟨true,rfl,h⟩
 ·rename_i j want hg
  simp only [hg]
  split at h
  ·rename_i d hd
   simp only [hd]
   split at h
   ·rename_i b hb
    simp only [hb]
    rcases ifB_some h with ⟨rfl,h⟩|⟨rfl,h⟩
    ·rw [set_same q.E d _ hb] at h;exact ⟨_,rfl,h⟩
    ·rw [set_same q.E d _ hb] at h;exact ⟨_,rfl,h⟩
   ·rename_i hb
    simp only [hb]
    exact ⟨_,rfl,h⟩
   ·cases h
  ·cases h
theorem gval_agr {o:Oper} {q q':Q} (h:Agr ops o q q'):gval ops q' o=gval ops q o:=by
 unfold gval
 split
 ·rfl
 ·rename_i j want hg
  split
  ·rename_i d hd
   rw [h.gd j want hg d hd]
  ·rfl
theorem gval_ok {o:Oper} {q:Q} {b:Bool} (h:gval ops q o=some b) {fr:Fr} {a:Act} {c:Cx} (hr:Rel fr q a c):Region.wanted o (yielded ops a.tmps)=b:=by
 have hw:wanted ops q o (fun b _=>some b)=some b:=by
  unfold gval at h
  unfold wanted
  split at h
  ·rename_i hg;simp only [hg];exact h
  ·rename_i j want hg
   simp only [hg]
   split at h
   ·rename_i d hd
    simp only [hd]
    split at h
    ·rename_i b' hb
     simp only [hb]
     simp only [setK_eq]
     cases b'<;>exact h
    ·rename_i hb;simp only [hb];exact h
    ·cases h
   ·cases h
 obtain ⟨b1,q1,h1,h2⟩:=wanted_some hw
 cases h1
 exact (h2 hr).2
theorem stepAt_op {o:Oper} {q q1:Q} {x:LV} {al:Option (Nat×Nat)} (hg:gval ops q o=some true) (h:OpOk P q o x al q1):StepAt P ops o q (q1.put o.dst x al):=by
 intro fr a c hr next Qp hn
 rw [if_pos (gval_ok hg hr)]
 exact h fr a c hr next Qp fun c' v hx hal=>hn _ _ (Rel.put hx o.dst al hal)
theorem stepAt_no {o:Oper} {q:Q} (hg:gval ops q o=some false):StepAt P ops o q (q.put o.dst .und none):=by
 intro fr a c hr next Qp hn
 rw [if_neg (by rw [gval_ok hg hr];simp)]
 exact hn _ _ (Rel.put (RelO.flyUnd hr) o.dst none (fun _ _ h=>by cases h))
theorem start_inv {q:Q} (h:startOk D q=true):Inv D q:=by
 simp only [startOk,List.all_eq_true] at h
 refine ⟨fun t b p hb hd=>?_⟩
 have hm:(some (b,p):Option (Nat×Nat))∈q.A:=by
  simp only [List.getD_eq_getElem?_getD] at hb
  cases hz:q.A[t]? with
  |none=>rw [hz] at hb;cases hb
  |some z=>rw [hz] at hb;simp only [Option.getD_some] at hb;rw [←hb];exact List.mem_of_getElem? hz
 have:=h _ hm
 simp only [Bool.not_eq_true'] at this
 rw [List.contains_iff_mem.2 hd] at this
 cases this
theorem calm_soft {o:Oper} (h:calmB o=true):softB o=true:=by
 unfold calmB at h
 unfold softB
 rw [Bool.or_eq_true] at h ⊢
 rcases h with h|h
 ·unfold takeB at h
  rw [Bool.or_eq_true] at h
  rcases h with h|h
  ·exact .inl h
  ·right
   split at h
   ·rename_i x ho;simp only [mildB,ho]
   ·cases h
 ·right
  split at h
  ·rename_i t x ho
   simp only [Bool.and_eq_true] at h
   simp only [mildB,ho];exact h.1
  ·rename_i ho
   simp only [mildB,ho]
   rw [Nat.eq_of_beq_eq_true h];rfl
  ·rename_i ho;simp only [mildB,ho]
  ·rename_i cl ho
   split at h
   ·rename_i hb;simp only [mildB,ho,hb];exact h
   ·cases h
  ·cases h
def LdH (P:Program) (ops:Array Oper) (D:List Nat) (hd:Option Nat) (o:Oper) (q q1:Q):Prop :=
 ∀h,hd=some h→isLdS o=true→∃xi G,q1=(q.giw [] G).put o.dst xi none∧okX D xi none=true∧(G=id∨∃X,G=fun S=>S.set h X)∧(G=id∨h<q.S.length)∧(calmB o=true→G=id) ∧
  ∀q',Agr ops o q { q' with S:=q.S }→(h<q.S.length→q'.S.getD h .any=q.S.getD h .any)→StepAt P ops o q' ((q'.giw [] G).put o.dst xi none)
theorem hidChk_some {hid:Option Nat} {o:Oper} {q:Q} {A:Option R} {r:R} (h:hidChk hid o q A=some r):A=some r∧∀k,hid=some k→isLdS o=true→∃t x p,o.op = .load t x∧ev q.E x = .ptr k p:=by
 unfold hidChk at h
 split at h
 ·exact ⟨h,fun k hk=>by cases hk⟩
 ·rename_i k
  split at h
  ·rename_i t x ho
   split at h
   ·rename_i hf
    exact ⟨h,fun k' _ hl=>by simp [isLdS,ho,hf] at hl⟩
   ·obtain ⟨id,p,hx,h⟩:=asPtr_some h
    rcases ifB_some h with ⟨h1,h2⟩|⟨_,h⟩
    ·have:=Nat.eq_of_beq_eq_true h1
     subst this
     exact ⟨h2,fun k' hk' _=>by cases hk';exact ⟨t,x,p,ho,hx⟩⟩
    ·cases h
  ·rename_i ho
   exact ⟨h,fun k' _ hl=>by
    unfold isLdS at hl
    split at hl
    ·rename_i t x ho';exact absurd ho' (ho t x)
    ·cases hl⟩
theorem objAt_len {S:List LV} {id:Nat} {K:(List LV→LV)→List LV→Option R} {r:R} (h:objAt S id K=some r):id<S.length:=by
 obtain ⟨mk,ty,xs,hm,hx,_⟩:=objAt_some h
 exact getD_lt hx (hm.ne xs)
theorem asPtr_at {R':Type} (i o:Nat) (K:Nat→Nat→Option R'):asPtr (.ptr i o) K=K i o:=rfl
theorem load_locH (hT:∀t ti,T t=some ti→tiOf P t=some ti) {o:Oper} {q:Q} {h p:Nat} {t:TypeId} {x:Operand} (ho:o.op = .load t x) (hl:isLdS o=true) (hx:ev q.E x = .ptr h p) {K:LV→Option (Nat×Nat)→Q→Option R} {r:R} (hk:lop T C o q K=some r) :
  ∃xi G,K xi none (q.giw [] G)=some r∧(G=id∨∃X,G=fun S=>S.set h X)∧(G=id∨h<q.S.length)∧(calmB o=true→G=id) ∧
   ∀q',Agr ops o q { q' with S:=q.S }→(h<q.S.length→q'.S.getD h .any=q.S.getD h .any)→OpOk P q' o xi none (q'.giw [] G):=by
 have hf:Nat.beq (flg o) 0=false:=by simpa [isLdS,ho] using hl
 have hns:takeB o=false:=(ld_take hl).1
 have main:∃xi G,K xi none (q.giw [] G)=some r∧(G=id∨∃X,G=fun S=>S.set h X)∧(G=id∨h<q.S.length)∧(calmB o=true→G=id) ∧
   ∀q',Agr ops o q { q' with S:=q.S }→(h<q.S.length→q'.S.getD h .any=q.S.getD h .any)→∀{R':Type} (C':Nat→Hd R') (K':LV→Option (Nat×Nat)→Q→Option R'),lop T C' o q' K'=K' xi none (q'.giw [] G):=by
  simp only [lop,ho,hf] at hk
  split at hk
  ·rename_i ti ht
   obtain ⟨id',p',hp,hk1⟩:=asPtr_some hk
   rw [hx] at hp
   cases hp
   have hlen:=objAt_len hk1
   obtain ⟨ty,_,xs,hm,hxs,hk2⟩:=objAt_some hk1
   have ob:∀q':Q,(h<q.S.length→q'.S.getD h .any=q.S.getD h .any)→∀{R':Type} (K':(List LV→LV)→List LV→Option R'),objAt q'.S h K'=K' ty xs:=fun q' hq R' K'=>by
    unfold objAt;rw [hq hlen,hxs];rcases hm with rfl|rfl<;>rfl
   have evx:∀q':Q,Agr ops o q { q' with S:=q.S }→ev q'.E x = .ptr h p:=fun q' ha=>(ha.ev x (by rw [ho];simp [Op.operands])).trans hx
   split at hk2
   ·rename_i h9
    split at hk2
    ·rename_i h3
     unfold ldRaw at hk2
     rcases ifB_some hk2 with ⟨h4,hk3⟩|⟨_,h⟩
     ·exact ⟨_,id,hk3,.inl rfl,.inl rfl,(fun _=>rfl),fun q' ha hq R' C' K'=>by
       simp only [lop,ho,hf,ht,evx q' ha,asPtr_at,ob q' hq,h9,h3,ldRaw,h4,ifB];rfl⟩
     ·cases h
    ·cases hk2
   rename_i h9
   split at hk2
   ·rename_i h3 h4
    obtain ⟨ys,hk3,h5⟩:=asOwn_loc hk2
    have hnc:calmB o=false:=by simp [calmB,hns,ho,h3]
    exact ⟨_,fun S=>S.set h (ty (xs.set p (.sl ti.esz ys))),hk3,.inr ⟨_,rfl⟩,.inr hlen,(fun hc=>by rw [hnc] at hc;cases hc),fun q' ha hq R' C' K'=>by
     simp only [lop,ho,hf,ht,evx q' ha,asPtr_at,ob q' hq,h9,h3,h4,h5];rfl⟩
   ·cases hk2
   ·rename_i h3
    obtain ⟨v,hk3,h5⟩:=ldO_loc hk2
    split at hk3
    ·rename_i h6 h7
     obtain ⟨i',p',hk4,h8⟩:=asPtr_loc hk3
     exact ⟨_,id,hk4,.inl rfl,.inl rfl,(fun _=>rfl),fun q' ha hq R' C' K'=>by
      simp only [lop,ho,hf,ht,evx q' ha,asPtr_at,ob q' hq,h9,h3,h5,h6,h7,h8];rfl⟩
    ·rename_i h6 h7
     obtain ⟨i',hk4,h8⟩:=asMap_loc hk3
     exact ⟨_,id,hk4,.inl rfl,.inl rfl,(fun _=>rfl),fun q' ha hq R' C' K'=>by
      simp only [lop,ho,hf,ht,evx q' ha,asPtr_at,ob q' hq,h9,h3,h5,h6,h7,h8];rfl⟩
    ·cases hk3
    ·rename_i h6
     exact ⟨_,id,hk3,.inl rfl,.inl rfl,(fun _=>rfl),fun q' ha hq R' C' K'=>by
      simp only [lop,ho,hf,ht,evx q' ha,asPtr_at,ob q' hq,h9,h3,h5,h6];rfl⟩
  ·cases hk
 obtain ⟨xi,G,m1,m2,m3,m4,m5⟩:=main
 refine ⟨xi,G,m1,m2,m3,m4,fun q' ha hq=>?_⟩
 have e:=m5 q' ha hq (R':=LV×Option (Nat×Nat)×Q) (fun _ _ _ _=>none) fun x al q=>some (x,al,q)
 obtain ⟨x',al,q'',h1,h2⟩:=lop_ok hT (fun f=>noneHd f) o q' _ _ e
 simp only [Option.some.injEq,Prod.mk.injEq] at h1
 obtain ⟨rfl,rfl,rfl⟩:=h1
 exact h2
theorem call_locQ (hH:QuietC P C) {o:Oper} {q:Q} (hcv:isCallV o=true) {K:LV→Option (Nat×Nat)→Q→Option R} {r:R} (hk:lop T C o q K=some r) :
  ∃x U,K x none (q.giw U id)=some r∧(∀t,t∈us U→t∈usedOf o)∧∀q',Agr ops o q q'→OpOk P q' o x none (q'.giw U id):=by
 have hns:=call_take hcv
 unfold isCallV at hcv
 split at hcv
 ·rename_i cl ho
  split at hcv
  ·rename_i x hb
   have huo:usedOf o=tmpsOf o.op.operands.toList:=by simp only [usedOf,ho,hb]
   simp only [lop,ho,hb] at hk
   obtain ⟨f,cs,hx,hk⟩:=asFn_some hk
   obtain ⟨hen,v,hk,hc⟩:=hH (funV f) _ _ _ _ hk
   obtain ⟨callee,as,ts⟩:=cl
   simp only at hb
   subst hb
   have hops:∀y,y∈as.toList→y∈o.op.operands.toList:=fun y hy=>by rw [ho];simp only [Op.operands,Call.operands];simp [by simpa using hy]
   have hxo:x∈o.op.operands.toList:=by rw [ho];simp only [Op.operands,Call.operands];simp
   simp only [takes_give] at hk
   have hg:∀q0:Q,({ q0.give (tmpsOf as.toList) q0.S with S:=q0.S }:Q)=q0.giw (dups (tmpsOf as.toList)) id:=fun q0=>by unfold Q.give Q.giw;rw [dupAt_act];rfl
   rw [hg] at hk
   refine ⟨v,dups (tmpsOf as.toList),hk,fun t ht=>?_,fun q' ha=>?_⟩
   ·rw [huo]
    rw [us_dups] at ht
    obtain ⟨y,hy,hy'⟩:=List.mem_filterMap.1 ht
    exact List.mem_filterMap.2 ⟨y,hops y hy,hy'⟩
   ·have e:=takes_congr as.toList q q' (fun y hy=>ha.ev y (hops y hy))
    have hc':LCalls P (funV f) (argsV f (takes as.toList q').1 cs) q'.S v q'.S:=by
     rw [e,ha.S hns];exact hc
    have:=ok_call (P:=P) (q:=q') ho ((ha.ev x hxo).trans hx) hen hc'
    rw [takes_give] at this
    rw [←hg]
    exact this
  ·cases hcv
 ·cases hcv
theorem call_locH {h:Nat} (hH:HidC P h C) {o:Oper} {q:Q} (hcv:isCallV o=true) {K:LV→Option (Nat×Nat)→Q→Option R} {r:R} (hk:lop T C o q K=some r) :
  ∃x U F,K x none (q.giw U F)=some r∧(∀t,t∈us U→t∈usedOf o)∧HF h F∧∀q',Agr ops o q { q' with S:=q.S }→q'.S.set h .any=q.S.set h .any→OpOk P q' o x none (q'.giw U F):=by
 unfold isCallV at hcv
 split at hcv
 ·rename_i cl ho
  split at hcv
  ·rename_i x hb
   have huo:usedOf o=tmpsOf o.op.operands.toList:=by simp only [usedOf,ho,hb]
   simp only [lop,ho,hb] at hk
   obtain ⟨f,cs,hx,hk⟩:=asFn_some hk
   obtain ⟨hen,v,S₁,hk,hl,hc⟩:=hH (funV f) _ _ _ _ hk
   obtain ⟨callee,as,ts⟩:=cl
   simp only at hb
   subst hb
   have hops:∀y,y∈as.toList→y∈o.op.operands.toList:=fun y hy=>by rw [ho];simp only [Op.operands,Call.operands];simp [by simpa using hy]
   have hxo:x∈o.op.operands.toList:=by rw [ho];simp only [Op.operands,Call.operands];simp
   simp only [takes_give] at hk
   have hg:∀q0:Q,({ q0.give (tmpsOf as.toList) q0.S with S:=S₁.set h (q0.S.getD h .any) }:Q)=q0.giw (dups (tmpsOf as.toList)) (fun S=>S₁.set h (S.getD h .any)):=fun q0=>by unfold Q.give Q.giw;rw [dupAt_act]
   rw [hg] at hk
   refine ⟨v,dups (tmpsOf as.toList),_,hk,fun t ht=>?_,fun S hS=>⟨fun X=>?_,by simpa using hl,?_⟩,fun q' ha hS=>?_⟩
   ·rw [huo]
    rw [us_dups] at ht
    obtain ⟨y,hy,hy'⟩:=List.mem_filterMap.1 ht
    exact List.mem_filterMap.2 ⟨y,hops y hy,hy'⟩
   ·simp only [List.set_set]
    rw [getD_set_self _ _ _ hS]
   ·exact getD_set_self _ _ _ hl
   ·have e:=takes_congr as.toList q q' (fun y hy=>ha.ev y (hops y hy))
    have hc':LCalls P (funV f) (argsV f (takes as.toList q').1 cs) q'.S v (S₁.set h (q'.S.getD h .any)):=by
     rw [e];exact hc q'.S hS
    have:=ok_call (P:=P) (q:=q') ho ((ha.ev x hxo).trans hx) hen hc'
    rw [takes_give] at this
    rw [←hg]
    exact this
  ·cases hcv
 ·cases hcv
theorem sch_ok (hQui:qm=true→QuietC P C) (hqm:qm=true→hd=none) (hHid:∀h,hd=some h→HidC P h C) (hT:∀t ti,T t=some ti→tiOf P t=some ti) (hC:∀f,HSound P f (C f)) (hD:∀(j:Nat) (o:Oper) (d:Nat),ops[j]? = some o→o.dst=some d→d∈D) (hU:∀(j:Nat) (o:Oper),ops[j]? = some o→∀t,t∈usedOf o→t∈D)
  {K:Q→Option R} {r:R}:∀(is:List Nat) (listed:Array Bool) (q:Q),chkSch qm md ops hd.isSome is listed=true→(is≠[]→Inv D q)→runD T C ops D hd (opsAt ops.toList is) q K=some r→∃qf,K qf=some r∧LA P md ops D qm hd qf is.length listed q:=by
 intro is
 induction is with
 |nil =>
  intro listed q hc _ h
  exact ⟨q,h,by simpa [chkSch] using hc,rfl⟩
 |cons i is ih =>
  intro listed q hc hinv h
  have hinv:=hinv (by simp)
  simp only [chkSch,Bool.and_eq_true] at hc
  obtain ⟨hc1,hc2⟩:=hc
  split at hc1
  rotate_left
  ·cases hc1
  rename_i o ho
  have hol:ops.toList[i]? = some o:=by simpa using ho
  simp only [opsAt,hol,runD,Q.putK_eq] at h
  obtain ⟨b,hg,h⟩:=wanted_gval h
   
  have fin:∀{x:LV} {al:Option (Nat×Nat)} {q1:Q} {V:Acts},StepAt P ops o q q1→(softB o=true→LStep P ops D qm hd o q q1)→(calmX qm o=true→okX D x al=true∧(∀t,t∈us V→t∈usedOf o)∧q1=(q.giw V id).put o.dst x al∧∀q',Agr ops o q q'→StepAt P ops o q' ((q'.giw V id).put o.dst x al))→LdH P ops D hd o q q1 →
    Inv D q1→runD T C ops D hd (opsAt ops.toList is) q1 K=some r→∃qf,K qf=some r∧LA P md ops D qm hd qf (i::is).length listed q:=by
   intro x al q1 V h1 h2 h3 h6 h4 h5
   obtain ⟨qf,hK,hla⟩:=ih (listed.setIfInBounds i true) q1 hc2 (fun _=>h4) h5
   refine ⟨qf,hK,?_⟩
   have hblk:∀{B:List Nat},blkOk md ops listed i B=true→(∀b,b∈B→listed.getD b true=false)∧∀b,b∈B→∃ob,ops[b]? = some ob∧∃e∈ob.after,Region.binds md e=true∧(e.on=i∨e.on∈B):=fun {B} hbk=>by
    simp only [blkOk,List.all_eq_true,Bool.and_eq_true,Bool.not_eq_true'] at hbk
    refine ⟨fun b hb=>(hbk b hb).1,fun b hb=>?_⟩
    have:=(hbk b hb).2
    split at this
    ·rename_i ob hob
     obtain ⟨e,he,hbd⟩:=Array.any_eq_true'.1 this
     simp only [Bool.and_eq_true,Bool.or_eq_true] at hbd
     exact ⟨ob,hob,e,he,hbd.1,hbd.2.imp (fun h=>Nat.eq_of_beq_eq_true h) any_beq⟩
    ·cases this
   rw [Bool.or_eq_true,Bool.or_eq_true] at hc1
   rcases hc1 with (hk|hc)|hc
   ·split at hk
    ·rename_i k hr
     have:=Nat.eq_of_beq_eq_true hk
     subst this
     refine (show LA P md ops D qm hd qf (is.length+1) listed q from ⟨fun h0=>(by rw [hr] at h0;cases h0),fun j hj=>?_⟩)
     rw [hr] at hj
     simp only [List.mem_cons,List.not_mem_nil,or_false] at hj
     subst hj
     exact ⟨o,ho,q1,h1,h2,hla⟩
    ·cases hk
   ·simp only [Bool.and_eq_true,free3] at hc
    obtain ⟨⟨hs,hrd⟩,hbk,hfr⟩:=hc
    obtain ⟨hx,hV,rfl,hv⟩:=h3 hs
    generalize blk md ops listed i=B at hbk hfr
    refine LA_first (B:=B) ho hs hqm hV hD hU hx (hblk hbk).2 is.length listed q (hblk hbk).1 (fun j oj hj hji hun hjB=>?_) (by simpa using hrd) hinv hv hla
    simp only [free2,List.all_eq_true,List.mem_range] at hfr
    have:=hfr j (Array.getElem?_eq_some_iff.1 hj).1
    simp only [hj,Bool.or_eq_true,hun,Bool.false_eq_true,or_false] at this
    rcases this with (h|h)|h
    ·exact absurd (Nat.eq_of_beq_eq_true h) hji
    ·exact absurd (any_beq h) hjB
    ·simp only [Bool.and_eq_true,List.all_eq_true,Bool.not_eq_true',Bool.or_eq_true] at h
     exact ⟨h.1.1.1.1,h.1.1.1.2,(fun t ht hl=>by have:=h.1.1.2 t ht;rw [List.contains_iff_mem.2 hl] at this;cases this),
      (fun t ht=>⟨(fun hl=>by have:=(h.1.2 t ht).1;rw [List.contains_iff_mem.2 hl] at this;cases this),(fun hl=>by have:=(h.1.2 t ht).2;rw [hl] at this;simp at this)⟩),h.2⟩
   ·simp only [Bool.and_eq_true,freeH] at hc
    obtain ⟨⟨⟨hsome,hld⟩,hrd⟩,hbk,hfr⟩:=hc
    obtain ⟨h,hh⟩:=Option.isSome_iff_exists.1 hsome
    obtain ⟨xi,G,rfl,hx,hG,hlen,hcG,hv⟩:=h6 h hh hld
    generalize blk md ops listed i=B at hbk hfr
    refine LA_ldH (B:=B) ho hld hh hG hcG hD hU hx (hblk hbk).2 is.length listed q (hblk hbk).1 (fun j oj hj hji hun hjB=>?_) (by simpa using hrd) hinv hlen hv hla
    simp only [List.all_eq_true,List.mem_range] at hfr
    have:=hfr j (Array.getElem?_eq_some_iff.1 hj).1
    simp only [hj,Bool.or_eq_true,hun,Bool.false_eq_true,or_false] at this
    rcases this with (h|h)|h
    ·exact absurd (Nat.eq_of_beq_eq_true h) hji
    ·exact absurd (any_beq h) hjB
    ·simp only [Bool.and_eq_true,List.all_eq_true,Bool.not_eq_true',Bool.or_eq_true] at h
     exact ⟨h.1.1.1,h.1.1.2,(fun t ht hl=>by have:=h.1.2 t ht;rw [List.contains_iff_mem.2 hl] at this;cases this),h.2⟩
  cases b with
  |false =>
   simp only at h
   have hv:∀(q':Q) (S:List LV),Agr ops o q { q' with S:=S }→StepAt P ops o q' (q'.put o.dst .und none):=fun q' S ha=>stepAt_no (by have:=gval_agr ha;exact this.trans hg)
   exact fin (x:=.und) (al:=none) (V:=[]) (hv q q.S (Agr.refl _ _ _)) (fun _=>⟨.und,none,[],id,rfl,rfl,(fun _ h=>by cases h),(fun _=>rfl),(fun q' ha=>hv q' q'.S ha),fun h _ _=>⟨fun S hS=>⟨fun _=>rfl,hS,rfl⟩,fun q' ha _=>hv q' _ ha⟩⟩)
    (fun _=>⟨rfl,(fun _ h=>by cases h),rfl,fun q' ha=>hv q' q'.S ha⟩) (fun h _ _=>⟨.und,id,rfl,rfl,.inl rfl,.inl rfl,(fun _=>rfl),fun q' ha _=>hv q' _ ha⟩) (hinv.put rfl _) h
  |true =>
   simp only at h
   obtain ⟨h,hid⟩:=hidChk_some h
   by_cases hs:stillB o=true
   ·have hnl:isLdS o=false:=by
     cases hl:isLdS o with
     |false=>rfl
     |true=>have:=(ld_take hl).1;simp [takeB,hs] at this
    have hnc:isCallV o=false:=calm_call (take_calm (by simp [takeB,hs]))
    obtain ⟨x,al,h,hloc⟩:=still_loc hs (Agr.refl ops o q) h
    split at h
    ·rename_i hx
     simp only [Bool.and_eq_true] at hx
     have hv:∀q',Agr ops o q q'→StepAt P ops o q' (q'.put o.dst x al):=fun q' ha=>by
      have e1:=hloc (R':=LV×Option (Nat×Nat)) (fun _ _ _ _=>none) fun x al _=>some (x,al)
      obtain ⟨x',al',h1,h2⟩:=still_loc hs ha e1
      simp only [Option.some.injEq,Prod.mk.injEq] at h1
      obtain ⟨rfl,rfl⟩:=h1
      have e2:=h2 (R':=LV×Option (Nat×Nat)×Q) (fun _ _ _ _=>none) fun x al q=>some (x,al,q)
      obtain ⟨x2,al2,q2,h3,h4⟩:=lop_ok hT (fun f=>noneHd f) o q' _ _ e2
      simp only [Option.some.injEq,Prod.mk.injEq] at h3
      obtain ⟨rfl,rfl,rfl⟩:=h3
      exact stepAt_op (by rw [gval_agr ha];exact hg) h4
     exact fin (V:=[]) (hv q (Agr.refl _ _ _)) (fun _=>⟨x,al,[],id,rfl,hx.1,(fun _ h=>by cases h),(fun _=>rfl),hv,fun h _ hc=>by rw [hnc] at hc;cases hc⟩) (fun _=>⟨hx.1,(fun _ h=>by cases h),rfl,hv⟩) (fun h _ hl=>by rw [hnl] at hl;cases hl) (hinv.put hx.1 _) h
    ·cases h
   ·by_cases hm:mildB o=true
    ·by_cases hL:∃k,hd=some k∧isLdS o=true
     ·obtain ⟨k,hk,hl⟩:=hL
      obtain ⟨t,y,p,hop,hy⟩:=hid k hk hl
      obtain ⟨xi,G,h,m2,m3,m4,m5⟩:=load_locH (ops:=ops) hT hop hl hy h
      split at h
      ·rename_i hx
       simp only [Bool.and_eq_true] at hx
       have hv:∀q':Q,Agr ops o q { q' with S:=q.S }→(k<q.S.length→q'.S.getD k .any=q.S.getD k .any)→StepAt P ops o q' ((q'.giw [] G).put o.dst xi none):=fun q' ha hq=>stepAt_op (by have:=gval_agr ha;exact this.trans hg) (m5 q' ha hq)
       have hnt:=(ld_take hl).1
       have hv1:∀q',Agr ops o q q'→StepAt P ops o q' ((q'.giw [] G).put o.dst xi none):=fun q' ha=>hv q' (by rw [←ha.S hnt];exact ha) (fun _=>by rw [ha.S hnt])
       exact fin (x:=xi) (al:=none) (V:=[]) (hv1 q (Agr.refl _ _ _)) (fun _=>⟨xi,none,[],G,rfl,hx.1,(fun _ h=>by cases h),(fun hc=>m4 (x_calm hc (fun h=>by rw [(ld_take hl).2] at h;cases h.2))),hv1,fun h _ hc=>by rw [(ld_take hl).2] at hc;cases hc⟩)
        (fun hc=>by have:=m4 (x_calm hc (fun h=>by rw [(ld_take hl).2] at h;cases h.2));subst this;exact ⟨hx.1,(fun _ h=>by cases h),rfl,hv1⟩) (fun h hh _=>by rw [hk] at hh;cases hh;exact ⟨xi,G,rfl,hx.1,m2,m3,m4,hv⟩) ((hinv.giw [] G).put hx.1 _) h
      ·cases h
     ·have hLd:LdH P ops D hd o q=fun _=>LdH P ops D hd o q q:=by
       funext q1
       exact propext ⟨fun _ k hk hl=>absurd ⟨k,hk,hl⟩ hL,fun _ k hk hl=>absurd ⟨k,hk,hl⟩ hL⟩
      have hLd:∀q1,LdH P ops D hd o q q1:=fun q1 k hk hl=>absurd ⟨k,hk,hl⟩ hL
      by_cases hQ:qm=true∧isCallV o=true
      ·obtain ⟨x,U,h,hUo,hop⟩:=call_locQ (ops:=ops) (hQui hQ.1) hQ.2 h
       split at h
       ·rename_i hx
        simp only [Bool.and_eq_true] at hx
        have hv:∀q',Agr ops o q q'→StepAt P ops o q' ((q'.giw U id).put o.dst x none):=fun q' ha=>stepAt_op (by rw [gval_agr ha];exact hg) (hop q' ha)
        exact fin (x:=x) (al:=none) (V:=U) (hv q (Agr.refl _ _ _)) (fun _=>⟨x,none,U,id,rfl,hx.1,hUo,(fun _=>rfl),hv,fun h hh _=>by rw [hqm hQ.1] at hh;cases hh⟩) (fun _=>⟨hx.1,hUo,rfl,hv⟩) (hLd _) ((hinv.giw U id).put hx.1 _) h
       ·cases h
      by_cases hcH:∃k,hd=some k∧isCallV o=true
      ·obtain ⟨k,hk,hcv⟩:=hcH
       obtain ⟨x,U,F,h,hUo,hHF,hop⟩:=call_locH (ops:=ops) (hHid k hk) hcv h
       have hnt:=call_take hcv
       have hncm:calmB o=false:=by
        cases hc:calmB o with
        |false=>rfl
        |true=>rw [calm_call hc] at hcv;cases hcv
       split at h
       ·rename_i hx
        simp only [Bool.and_eq_true] at hx
        have hv:∀q':Q,Agr ops o q { q' with S:=q.S }→q'.S.set k .any=q.S.set k .any→StepAt P ops o q' ((q'.giw U F).put o.dst x none):=fun q' ha hq=>stepAt_op (by have:=gval_agr ha;exact this.trans hg) (hop q' ha hq)
        have hv1:∀q',Agr ops o q q'→StepAt P ops o q' ((q'.giw U F).put o.dst x none):=fun q' ha=>hv q' (by rw [←ha.S hnt];exact ha) (by rw [ha.S hnt])
        exact fin (x:=x) (al:=none) (V:=U) (hv1 q (Agr.refl _ _ _)) (fun _=>⟨x,none,U,F,rfl,hx.1,hUo,(fun hc=>by have:=x_calm hc hQ;rw [hncm] at this;cases this),hv1,fun h hh _=>by rw [hk] at hh;cases hh;exact ⟨hHF,hv⟩⟩)
         (fun hc=>by have:=x_calm hc hQ;rw [hncm] at this;cases this) (hLd _) ((hinv.giw U F).put hx.1 _) h
       ·cases h
      ·obtain ⟨x,U,S,h,htk,hUo,hop⟩:=mild_loc hT hC (ops:=ops) hm h
       split at h
       ·rename_i hx
        simp only [Bool.and_eq_true] at hx
        have hv:∀q',Agr ops o q q'→StepAt P ops o q' ((q'.giw U (fun S0=>S.getD S0)).put o.dst x none):=fun q' ha=>stepAt_op (by rw [gval_agr ha];exact hg) (hop q' ha)
        exact fin (x:=x) (al:=none) (V:=U) (hv q (Agr.refl _ _ _)) (fun _=>⟨x,none,U,_,rfl,hx.1,hUo,(fun hc=>by rw [htk (x_calm hc hQ)];rfl),hv,fun h hh hcv=>absurd ⟨h,hh,hcv⟩ hcH⟩) (fun h=>by have:=htk (x_calm h hQ);subst this;exact ⟨hx.1,hUo,rfl,hv⟩) (hLd _) ((hinv.giw U _).put hx.1 _) h
       ·cases h
    ·obtain ⟨x,al,q',h,hop⟩:=lop_ok hT hC o q _ _ h
     have hns:softB o=false:=by unfold softB;simp at hs hm;rw [hs,hm];rfl
     have hnt:calmB o=false:=by
      cases hc:calmB o with
      |false=>rfl
      |true=>rw [calm_soft hc] at hns;cases hns
     have hnv:isCallV o=false:=by
      cases hl:isCallV o with
      |false=>rfl
      |true =>
       unfold isCallV at hl
       split at hl
       ·rename_i c ho'
        split at hl
        ·rename_i x hb;simp [mildB,ho',hb] at hm
        ·cases hl
       ·cases hl
     have hnl:isLdS o=false:=by
      cases hl:isLdS o with
      |false=>rfl
      |true =>
       unfold isLdS at hl
       split at hl
       ·rename_i t x ho';simp [mildB,ho',hl] at hm
       ·cases hl
     split at h
     ·rename_i hx
      simp only [Bool.and_eq_true,Bool.or_eq_true] at hx
      have hst:startOk D q'=true:=hx.2.resolve_left (by rw [hns];simp)
      exact fin (x:=x) (al:=al) (V:=[]) (stepAt_op hg hop) (fun h=>by rw [hns] at h;cases h) (fun h=>by have:=x_calm h (fun h=>by rw [hnv] at h;cases h.2);rw [hnt] at this;cases this) (fun h _ hl=>by rw [hnl] at hl;cases hl) ((start_inv hst).put hx.1 _) h
     ·cases h
theorem Rel.draw {fr:Fr} {q:Q} {a:Act} {c:Cx} (h:Rel fr q a c):Rel fr q a { c with w:={ c.w with drawn:=c.w.drawn+1 } }:=by
 obtain ⟨o,h⟩:=h
 have hext:Ext c { c with w:={ c.w with drawn:=c.w.drawn+1 } } (fun _=>False) :=
  ⟨Nat.le_refl _,fun _ _=>rfl,fun _ _ h=>h,fun _ _ _=>rfl,Nat.le_refl _,fun _ _ _=>rfl,fun _ _ _ _ h=>h,(fun _ cur _ k _ h=>⟨cur,k,h,rfl⟩),rfl,rfl,rfl⟩
 exact ⟨o,h.len,h.alen,fun t ht=>(h.env t ht).ext hext (by simp),h.al,⟨h.sto.n,fun id hid=>(h.sto.r id hid).ext hext (by simp),h.sto.bd⟩,fun i hi=>(h.fly i hi).ext hext (by simp),h.flyl,h.sep,
  h.ext.trans hext (fun _ _ h=>h.elim),h.own,h.df⟩
theorem drawn_ok' (hQui:qm=true→QuietC P C) (hqm:qm=true→hd=none) (hHid:∀h,hd=some h→HidC P h C) (hT:∀t ti,T t=some ti→tiOf P t=some ti) (hC:∀f,HSound P f (C f)) {is:List Nat} (hc:drawChk P ops qm hd.isSome is=true) {q:Q} {K:Q→Option R} {r:R}
  (h:(match startOk (dall ops) q with|true=>runD T C ops (dall ops) hd (opsAt ops.toList is) q K|false=>none)=some r) :
  ∃qf,K qf=some r∧P.follows .mixedOrders=true∧∀(fr:Fr) (a:Act) (c:Cx),Rel fr q a c→∀Qp:Exit→Act→World→Prop,(∀a' c',Rel fr qf a' c'→Qp .normal a' c'.w)→wpAny P .any ops Qp ops.size (Array.replicate ops.size false) a { c.w with drawn:=c.w.drawn+1 }:=by
 simp only [drawChk,Bool.and_eq_true] at hc
 split at h
 ·rename_i hs
  have hD:∀(j:Nat) (o:Oper) (d:Nat),ops[j]? = some o→o.dst=some d→d∈dall ops:=fun j o d ho hd =>
   List.mem_flatMap.2 ⟨o,by simpa using Array.mem_of_getElem? ho,List.mem_append.2 (.inl (by simp [hd]))⟩
  have hU:∀(j:Nat) (o:Oper),ops[j]? = some o→∀t,t∈usedOf o→t∈dall ops:=fun j o ho t ht =>
   List.mem_flatMap.2 ⟨o,by simpa using Array.mem_of_getElem? ho,List.mem_append.2 (.inr ht)⟩
  obtain ⟨qf,hK,hla⟩:=sch_ok hQui hqm hHid hT hC hD hU is _ q hc.2 (fun _=>start_inv hs) h
  refine ⟨qf,hK,hc.1.1,fun fr a c hr Qp hQ=>?_⟩
  have hlen:is.length=ops.size:=Nat.eq_of_beq_eq_true hc.1.2
  rw [hlen] at hla
  have hr':Rel fr q a { c with w:={ c.w with drawn:=c.w.drawn+1 } }:=hr.draw
  exact LA_wp _ _ _ hla hr' hQ
 ·cases h
theorem flagL_get (tk:List (Nat×Nat)):∀(os:List Oper) (k i:Nat),(flagL tk k os)[i]? = (os[i]?).map (flag1 (flagAt tk (k+i)))
 |[],k,i=>by simp [flagL]
 |o::os,k,0=>by simp [flagL]
 |o::os,k,i+1=>by
  simp only [flagL,List.getElem?_cons_succ]
  rw [flagL_get tk os (k+1) i,show k+1+i=k+(i+1) by omega]
theorem flagL_len (tk:List (Nat×Nat)):∀(os:List Oper) (k:Nat),(flagL tk k os).length=os.length
 |[],_=>rfl
 |o::os,k=>by simp [flagL,flagL_len tk os (k+1)]
theorem flag_get (tk:List (Nat×Nat)) (ops:Array Oper) (i:Nat):(flagA tk ops)[i]? = (ops[i]?).map (flag1 (flagAt tk i)):=by
 simp [flagA,flagL_get]
theorem flag_size (tk:List (Nat×Nat)) (ops:Array Oper):(flagA tk ops).size=ops.size:=by simp [flagA,flagL_len]
theorem flag1_cases (b:Nat) (o:Oper):flag1 b o=o∨(∃x,o.op = .move x∧flag1 b o = { o with op:=.assign x })∨(∃n,flag1 b o = { o with type:=n }∧∀(ρ:Operand→Value) (m:Nat),execOp ρ { o with type:=m } = execOp ρ o):=by
 unfold flag1
 split
 ·exact .inl rfl
 ·split
  ·rename_i x ho
   split
   ·exact .inr (.inl ⟨x,ho,rfl⟩)
   ·exact .inr (.inr ⟨_,rfl,fun ρ m=>by simp only [execOp,ho]⟩)
  all_goals first
   |exact .inl rfl
   | (rename_i ho;exact .inr (.inr ⟨_,rfl,fun ρ m=>by simp only [execOp,ho]⟩))
   |skip
  ·rename_i cl ho
   obtain ⟨callee,as,ts⟩:=cl
   split
   ·rename_i hb;replace hb:callee = .builtin .len:=hb;subst hb;exact .inr (.inr ⟨_,rfl,fun ρ m=>by simp [execOp,ho,resolve,invoke,builtin,Builtin.len_]⟩)
   ·rename_i hb;replace hb:callee = .builtin .append:=hb;subst hb;exact .inr (.inr ⟨_,rfl,fun ρ m=>by simp [execOp,ho,resolve,invoke,builtin,Builtin.append_]⟩)
   ·rename_i hb;replace hb:callee = .builtin .copy:=hb;subst hb;exact .inr (.inr ⟨_,rfl,fun ρ m=>by simp [execOp,ho,resolve,invoke,builtin,Builtin.copy_]⟩)
   ·exact .inl rfl
theorem flag1_same (b:Nat) (o:Oper):(flag1 b o).dst=o.dst∧(flag1 b o).guard=o.guard∧(flag1 b o).after=o.after∧∀(ρ:Operand→Value),execOp ρ (flag1 b o)=execOp ρ o:=by
 rcases flag1_cases b o with h|⟨x,ho,h⟩|⟨n,h,ho⟩
 ·rw [h];exact ⟨rfl,rfl,rfl,fun _=>rfl⟩
 ·rw [h];exact ⟨rfl,rfl,rfl,fun ρ=>by simp [execOp,ho]⟩
 ·rw [h];exact ⟨rfl,rfl,rfl,fun ρ=>ho ρ n⟩
theorem flag1_upon (b:Nat) (o:Oper) (a:Act) (K:Act→World→Prop) (Q:Exit→Act→World→Prop) (r:Result Next):(flag1 b o).upon P a K Q r=o.upon P a K Q r:=by
 rcases flag1_cases b o with h|⟨x,ho,h⟩|⟨n,h,ho⟩
 ·rw [h]
 ·rw [h];rfl
 ·rw [h];rfl
theorem flag1_wp (b:Nat) (o:Oper) (a:Act) (w:World) (K:Act→World→Prop) (Q:Exit→Act→World→Prop):(flag1 b o).wp P a w K Q=o.wp P a w K Q:=by
 unfold Oper.wp
 rw [(flag1_same b o).2.2.2,flag1_upon]
theorem flag1_asks (b:Nat) (o:Oper) (a:Act) (w:World):(flag1 b o).asks P a w=o.asks P a w:=by
 unfold Oper.asks
 rw [(flag1_same b o).2.2.2]
theorem flag_yielded (tk:List (Nat×Nat)) (ops:Array Oper) (tmps:Array Value):yielded (flagA tk ops) tmps=yielded ops tmps:=by
 funext j
 unfold yielded
 rw [flag_get]
 cases h:ops[j]? with
 |none=>rfl
 |some o=>simp [(flag1_same _ o).1]
theorem flag_wanted (b:Nat) (o:Oper) (y:Nat→Option Bool):Region.wanted (flag1 b o) y=Region.wanted o y:=by
 unfold Region.wanted
 rw [(flag1_same b o).2.1]
theorem flag_wpOp {tk:List (Nat×Nat)} {Q:Exit→Act→World→Prop} {i:Nat} {K K':Act→World→Prop} {a:Act} {w:World} (hK:∀a w,K a w→K' a w) (h:wpOp P (flagA tk ops) Q i K a w):wpOp P ops Q i K' a w:=by
 refine wpOp_mono hK ?_
 unfold wpOp at *
 rw [flag_get] at h
 cases ho:ops[i]? with
 |none=>rw [ho] at h;exact h
 |some o =>
  rw [ho] at h
  simp only [Option.map_some,flag_yielded,flag_wanted,flag1_wp,flag1_asks,(flag1_same _ o).1] at h
  exact h
theorem flag_wpOps {tk:List (Nat×Nat)} {Q:Exit→Act→World→Prop}:∀(is:List Nat) (a:Act) (w:World),wpOps P (flagA tk ops) Q is a w→wpOps P ops Q is a w
 |[],_,_,h=>h
 |i::is,a,w,h=>by
  rw [wpOps_cons] at h ⊢
  exact flag_wpOp (fun a w=>flag_wpOps is a w) h
theorem flag_ready (tk:List (Nat×Nat)) (listed:Array Bool):Region.ready md (flagA tk ops) listed=Region.ready md ops listed:=by
 unfold Region.ready
 rw [flag_size]
 congr 1
 funext i
 rw [flag_get]
 cases ops[i]? with
 |none=>rfl
 |some o=>simp [(flag1_same _ o).2.2.1]
theorem flag_wpAny {tk:List (Nat×Nat)} {Q:Exit→Act→World→Prop}:∀(n:Nat) (listed:Array Bool) (a:Act) (w:World),wpAny P md (flagA tk ops) Q n listed a w→wpAny P md ops Q n listed a w
 |0,listed,a,w,h=>⟨by rw [←flag_ready tk];exact h.1,h.2⟩
 |n+1,listed,a,w,h=>⟨fun h0=>h.1 (by rw [flag_ready];exact h0),fun i hi=>flag_wpOp (fun a w=>flag_wpAny n _ a w) (h.2 i (by rw [flag_ready];exact hi))⟩
theorem drawn_ok (hQui:qm=true→QuietC P C) (hqm:qm=true→hd=none) (hHid:∀h,hd=some h→HidC P h C) (hT:∀t ti,T t=some ti→tiOf P t=some ti) (hC:∀f,HSound P f (C f)) {id:Nat} {tk:List (Nat×Nat)} {is:List Nat} (hc:drawChk P (flagA tk ops) qm hd.isSome is=true) {q:Q} {K:Q→Option R} {r:R}
  (h:(match startOk (dall (flagA tk ops)) q with|true=>runD T C (flagA tk ops) (dall (flagA tk ops)) hd (opsAt (flagA tk ops).toList is) q K|false=>none)=some r) :
  ∃qf,K qf=some r∧∀(fr:Fr) (a:Act) (c:Cx),Rel fr q a c→∀Qp:Exit→Act→World→Prop,(∀a' c',Rel fr qf a' c'→Qp .normal a' c'.w)→(Code.region id ops true).wp P Qp a c.w:=by
 obtain ⟨qf,hK,hm,hw⟩:=drawn_ok' hQui hqm hHid hT hC hc h
 refine ⟨qf,hK,fun fr a c hr Qp hQ=>wp_region_any hm ?_⟩
 have:=flag_wpAny _ _ _ _ (hw fr a c hr Qp hQ)
 rwa [flag_size] at this
end
end Go.Lm
