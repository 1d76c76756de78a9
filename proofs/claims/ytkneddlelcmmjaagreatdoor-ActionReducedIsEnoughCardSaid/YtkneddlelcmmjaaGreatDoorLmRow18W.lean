/- The walk of the row of ActionReducedIsEnough, and what is lifted of it. -/
import Derived.Test.YtkneddlelcmmjaaGreatDoorLf
import Derived.Test.YtkneddlelcmmjaaGreatDoorCards
import Derived.Test.YtkneddlelcmmjaaGreatDoorTie
import Derived.ProofKit
import Derived.OpenShut
import Derived.LaidMore
import Derived.Lay
import Derived.Lib.LaidTab
import Derived.SevenTiedAt
import Derived.Stop.Joined
import Derived.Shelf.Vars
set_option linter.unusedVariables false
set_option linter.unusedSimpArgs false
namespace Go.Proofs.YtkneddlelcmmjaaGreatDoor
open Go.ChangeShapes Go.WideShapes Go.ChangeAt Go.RowKit Go.Lm
abbrev tyVar:Ty:=.cons .str (.cons .str .nil)
abbrev tyAct:Ty:=.cons .str (.cons (.sl 1 24 (.sl 1 16 .str)) (.cons (.sl 2 32 tyVar) (.cons (.sl 1 16 .str) (.cons (.sl 2 32 tyVar) (.cons (.int .i64) .nil)))))
abbrev tyLook:Ty:=.cons .str (.cons .str (.cons .bool .nil))
abbrev tyFile:Ty:=.cons .str (.cons .bool (.cons (.sl 1 1 (.int .u8)) .nil))
abbrev tyFiles:Ty:=.sl 3 48 tyFile
abbrev tyLooks:Ty:=.sl 3 40 tyLook
theorem ty0:tyOf Tryz.prog 6 26=some tyAct:=by kernel_rfl
theorem ty1:tyOf Tryz.prog 6 27=some tyFiles:=by kernel_rfl
def varOfT (x:tyVar.T):AVar:=(x.1,x.2.1)
def actOf (x:tyAct.T):Lm.Act:=⟨x.1,(x.2.1:List (List ByteArray)),(x.2.2.1:List tyVar.T).map varOfT,(x.2.2.2.1:List ByteArray),(x.2.2.2.2.1:List tyVar.T).map varOfT,x.2.2.2.2.2.1⟩
theorem vars_of (l:List tyVar.T):l.map tyVar.elem=(l.map varOfT).map varL:=by rw [List.map_map];rfl
theorem act_of (x:tyAct.T):tyAct.arg x = .agg [.str (actOf x).tool,.sl 1 ((actOf x).cmds.map cmdL),.sl 2 ((actOf x).vars.map varL),.sl 1 ((actOf x).outs.map .str),.sl 2 ((actOf x).needs.map varL),.int .i64 (actOf x).time]:=by
 have e1:=vars_of x.2.2.1
 have e2:=vars_of x.2.2.2.2.1
 show LV.agg [.str x.1,.sl 1 ((x.2.1:List (List ByteArray)).map cmdL),.sl 2 ((x.2.2.1:List tyVar.T).map tyVar.elem),.sl 1 ((x.2.2.2.1:List ByteArray).map .str),.sl 2 ((x.2.2.2.2.1:List tyVar.T).map tyVar.elem),.int .i64 x.2.2.2.2.2.1]=_
 rw [e1,e2]
 rfl
theorem act_ok {x:tyAct.T} (h:tyAct.ok x):ActOk (actOf x):=by
 have h1:x.1.size≤140737488351232:=h.1
 have hv:∀l:List tyVar.T,(∀y∈l,tyVar.ok y)→∀z∈l.map varOfT,z.1.size≤140737488355328:=fun l hl z hz=>by
  obtain ⟨y,hy,rfl⟩:=List.mem_map.1 hz
  have h6:y.1.size≤140737488351232:=(hl y hy).1
  show y.1.size≤_
  omega
 refine ⟨by show x.1.size≤_;omega,fun c hc w hw=>?_,hv _ h.2.2.1.2.2,fun w hw=>?_,hv _ h.2.2.2.2.1.2.2⟩
 ·have h6:w.size≤140737488351232:=(h.2.1.2.2 c hc).2.2 w hw
  omega
 ·have h6:w.size≤140737488351232:=h.2.2.2.1.2.2 w hw
  omega
def fileOf (x:tyFile.T):Lm.File:=⟨x.1,x.2.1,⟨((x.2.2.1:List Int).map fun n=>UInt8.ofNat n.toNat).toArray⟩,false,fun h=>by cases h⟩
theorem byte_of {n:Int} (h:(Lit.int .u8 n).wf=true):((UInt8.ofNat n.toNat).toNat:Int)=n:=by
 simp only [Lit.wf,Bool.and_eq_true,decide_eq_true_eq] at h
 have h1:(0:Int)≤n:=h.1
 have h2:n≤255:=h.2
 rw [UInt8.toNat_ofNat']
 omega
theorem bytes_of {xs:List Int} (h:∀n∈xs,(Lit.int .u8 n).wf=true):bytesL ⟨(xs.map fun n=>UInt8.ofNat n.toNat).toArray⟩=xs.map fun n=>LV.int .u8 n:=by
 unfold bytesL
 rw [List.map_map]
 apply List.map_congr_left
 intro n hn
 show LV.int .u8 _=_
 rw [byte_of (h n hn)]
theorem file_of {x:tyFile.T} (h:tyFile.ok x):tyFile.elem x=(fileOf x).lv:=by
 have hb:bytesL (fileOf x).b=(x.2.2.1:List Int).map fun n=>LV.int .u8 n:=bytes_of h.2.2.1.2.2
 show LV.agg [.str x.1,.bool x.2.1,.sl 1 ((x.2.2.1:List Int).map fun n=>LV.int .u8 n)]=LV.agg [.str x.1,.bool x.2.1,.sl 1 (bytesL (fileOf x).b)]
 rw [hb]
def filesOf (x:tyFiles.T):List Lm.File:=(x:List tyFile.T).map fileOf
theorem files_of {x:tyFiles.T} (h:tyFiles.ok x):tyFiles.arg x = .sl 3 ((filesOf x).map Lm.File.lv):=by
 have e:∀l:List tyFile.T,(∀y∈l,tyFile.ok y)→l.map tyFile.elem=(l.map fileOf).map Lm.File.lv:=fun l hl=>by
  rw [List.map_map]
  exact List.map_congr_left fun y hy=>file_of (hl y hy)
 exact congrArg (LV.sl 3) (e x h.2.2)
theorem files_ok {x:tyFiles.T} (h:tyFiles.ok x):FilesOk (filesOf x):=by
 have h1:(x:List tyFile.T).length*48≤140737488351232:=h.1
 have hl:(filesOf x).length=(x:List tyFile.T).length:=List.length_map _
 refine ⟨by omega,fun f hf=>?_,fun f hf=>?_⟩
 ·obtain ⟨y,hy,rfl⟩:=List.mem_map.1 hf
  have h2:(y.2.2.1:List Int).length*1≤140737488351232:=(h.2.2 y hy).2.2.1.1
  have:(fileOf y).b.size=(y.2.2.1:List Int).length:=by
   unfold fileOf
   simp [ByteArray.size]
   exact List.length_map _
  omega
 ·obtain ⟨y,hy,rfl⟩:=List.mem_map.1 hf
  have h2:y.1.size≤140737488351232:=(h.2.2 y hy).1
  show y.1.size≤_
  omega
set_option maxRecDepth 100000 in
theorem tab {W:World} (h:laidMetH Tryz.prog Rows.actionReducedIsEnoughRow.laid W):Lib.TabIs Tryz.prog W "internal/strconv.uint64pow10" .u64 Lib.pow10Tab:=by
 have h2:=laidMetH.filter (fun x=>x.1 == "internal/strconv.uint64pow10") h
 rw [MakeChecks.laidMetH_plain _ _ _ (by kernel_rfl)] at h2
 have e:Rows.actionReducedIsEnoughRow.laid.filter (fun x=>x.1 == "internal/strconv.uint64pow10")=[("internal/strconv.uint64pow10",Lib.tabData .u64 Lib.pow10Tab)]:=by kernel_rfl
 rw [e] at h2
 exact Lib.tabIs_of_head H.powG_eq (show (Tryz.prog.globals[H.powG]?).map (·.type)=some 249 by kernel_rfl) Tryz.underlying249 Tryz.underlying134 (by kernel_rfl) (by kernel_rfl) h2
theorem heap_of {W:World} (h:Lib.TabIs Tryz.prog W "internal/strconv.uint64pow10" .u64 Lib.pow10Tab):∃e fz,W.heap[H.powG]? = some (.cells H.powA e fz):=by
 unfold Lib.TabIs World.var? at h
 rw [H.powG_eq] at h
 simp only [Option.bind_some] at h
 split at h
 ·rename_i cs e fz hh
  cases h
  exact ⟨e,fz,hh⟩
 ·cases h
theorem maxcell {W:World} (h:W.ShapedOpen Tryz.prog):∃n e fz,W.heap[H.maxG]? = some (.cells #[.int .i64 n] e fz):=by
 have h1:H.maxG<Tryz.prog.globals.size:=of_decide_eq_true (by kernel_rfl)
 have h2:((Go.begin Tryz.prog (fun _ _=>0) default).world.heap[H.maxG]?).bind Obj.row? = some (#[.int .i64 0],3):=by kernel_rfl
 obtain ⟨m,hm⟩:=Go.Proofs.cell_of_shapedOpen_int (zero:=#[.int .i64 0]) (t:=3) h h1 h2 rfl (by kernel_rfl) (by kernel_rfl) Tryz.underlying3
 obtain ⟨cs,hh,hs,_⟩:=h.1 _ _ _ h1 h2
 obtain ⟨l⟩:=cs
 match l,hs with
 |[x],_ =>
  have:x = .int .i64 m:=by
   simp only [World.cell?,hh] at hm
   simpa using hm
  subst this
  exact ⟨m,_,_,hh⟩
theorem apartG:H.powG≠H.maxG:=by
 have:(H.powG==H.maxG)=false:=by kernel_rfl
 exact fun h=>by rw [h,beq_self_eq_true] at this;cases this
theorem globs {W:World} (a b:_) (h1:W.heap[H.powG]? = some a) (h2:W.heap[H.maxG]? = some b):Globs W [.glob H.powG a,.glob H.maxG b]:=by
 refine ⟨fun id hid=>?_,fun id id' h3 h4 hne=>?_⟩
 ·rcases (show id=0∨id=1 by simp only [List.length_cons,List.length_nil] at hid;omega) with rfl|rfl
  ·exact ⟨_,_,rfl,h1⟩
  ·exact ⟨_,_,rfl,h2⟩
 ·rcases (show id=0∨id=1 by simp only [List.length_cons,List.length_nil] at h3;omega) with rfl|rfl<;>rcases (show id'=0∨id'=1 by simp only [List.length_cons,List.length_nil] at h4;omega) with rfl|rfl
  ·exact absurd rfl hne
  ·exact apartG
  ·exact apartG.symm
  ·exact absurd rfl hne
theorem walk (x0:tyAct.T) (hx0:tyAct.ok x0) (x1:tyFiles.T) (hx1:tyFiles.ok x1) (v0 v1:Value) (W:World) (h0:Rep (Cx.start W) (tyAct.arg x0) v0 []) (h1:Rep (Cx.start W) (tyFiles.arg x1) v1 []) (ht:Lib.TabIs Tryz.prog W "internal/strconv.uint64pow10" .u64 Lib.pow10Tab) (hsh:W.ShapedOpen Tryz.prog) :
  Calls Tryz.prog 7 #[v0,v1] W fun e w'=>e = .returned (.bool true)∧RowKit.Below W.heap.size W w':=by
 obtain ⟨e,fz,hh⟩:=heap_of ht
 obtain ⟨m,e2,fz2,hh2⟩:=maxcell hsh
 have hS:GlobOk [.glob H.powG (.cells H.powA e fz),.glob H.maxG (.cells #[.int .i64 m] e2 fz2)]:=⟨⟨1,e2,fz2,m,rfl⟩,⟨0,e,fz,rfl⟩⟩
 refine start_callsG (S:=[.glob H.powG (.cells H.powA e fz),.glob H.maxG (.cells #[.int .i64 m] e2 fz2)]) (S':=[.glob H.powG (.cells H.powA e fz),.glob H.maxG (.cells #[.int .i64 m] e2 fz2)]) (v:=.bool true) (r:=.bool true) (G.Qdc.en 281474976710656).ok (args:=[tyAct.arg x0,tyFiles.arg x1]) rfl (fun i hi=>?_) (globs _ _ hh hh2) ?_ ⟨Nat.le_refl _,fun _ _=>rfl⟩ rfl
 ·match i,hi with
  |0,_=>exact h0
  |1,_=>exact h1
 ·rw [act_of x0,files_of hx1]
  exact law7 (Nat.le_refl _) (act_ok hx0) (files_ok hx1) hS fun r S=>some (resE G.Qdc.rs r,S)
theorem own:ownKnob Tryz.prog.godebug=none:=by kernel_rfl
theorem laidOut:laidOutB Tryz.prog=true:=by kernel_rfl
theorem returns_shaped {H:Type} {enc:TypeId×Value→H} {a:Assume} {C:Checked} {os:Os} {f:FuncId} {fn:Func} {s:ChangeSpec} {conds:List PathCond} {apart fresh handsOn again:Bool} {X:World→Array Value→Prop}
  (hX:∀(w w':World) (args:Array Value),w.heap=w'.heap→X w args→X w' args)
  (own:ownKnob C.prog.godebug=none) (started:os.Started) (noInit:C.prog.inits.idxOf? f=none) (hfn:C.prog.funcs[f]? = some fn)
  (witness:∃(w:World) (tape:Tape) (i:Input),w.os=os∧(w.forCall tape i).Shaped C.prog∧i.vars=[]∧Input.okWide C.prog (w.forCall tape i) .any w.heap.size f i ∧
   ((s.pre enc C.prog fn conds apart (w.forCall tape i).memory i.args∧X (w.forCall tape i).memory i.args)∧sizedMet enc C.prog fn (OpenSpec.ofChange s) apart (w.forCall tape i).memory i.args)∧a.holds C.prog (lone (Frame.enter C.prog f i.args .normal) [] (w.forCall tape i)))
  (contract:∀(W:World) (base:Nat) (args:Array Value) (ds gs:List (DataW H)) (before:List MemPlace),
   (∀(j:Nat) t v,fn.params[j]? = some t→args[j]? = some v→Value.okWide C.prog W .any base t v) →
   DataW.Whole enc C.prog fn.params.toList s.vars apart W args.toList ds gs before →
   (DataW.weightsEach C.prog (fn.params.toList++s.plain.varTypes C.prog) (ds++gs)).all (·≤reachBytes)=true→X W args→W.ShapedOpen C.prog →
   Calls C.prog f args W fun e W'=>∃v,e = .returned v∧s.post enc C.prog fn apart fresh handsOn again W args v W') :
  ReturnsInHanded a C os f .any (fun w args=>(s.pre enc C.prog fn conds apart w args∧X w args)∧sizedMet enc C.prog fn (OpenSpec.ofChange s) apart w args) (s.post enc C.prog fn apart fresh handsOn again):=by
 refine returnsInHanded_of_calls own started noInit witness ?_
 intro w tape i _ hsh _ hok hpre hholds
 obtain ⟨_,_,_,fn',hfn',_,_,_,_,hval⟩:=hok
 have e:fn'=fn:=Option.some.inj (hfn'.symm.trans hfn)
 subst e
 obtain ⟨⟨⟨ds,gs,before,hw,hc⟩,hx⟩,hz⟩:=hpre
 have hw':=DataW.Whole.of_heap (w':=w.forCall tape i) (by rfl) hw
 refine (contract (w.forCall tape i) w.heap.size i.args ds gs before hval hw' (hz.weights hw) (hX _ _ _ (by rfl) hx) hsh).mono fun e W' ⟨v,he,hp⟩=>?_
 subst he
 exact ChangeSpec.post_blind hp
set_option maxRecDepth 100000 in
theorem lifted (os:Os) (started:os.Started) (H:Type) (enc:TypeId×Value→H) :
  ReturnsInHanded {} Tryz.checked os 7 .any (fun w args=>(Rows.actionReducedIsEnoughSpec.pre enc Tryz.prog Tryz.f7 Rows.actionReducedIsEnoughRow.domain false w args∧laidMetH Tryz.prog Rows.actionReducedIsEnoughRow.laid w)∧sizedMet enc Tryz.prog Tryz.f7 (OpenSpec.ofChange Rows.actionReducedIsEnoughSpec) false w args)
   (Rows.actionReducedIsEnoughSpec.post enc Tryz.prog Tryz.f7 false true false false):=by
 refine returns_shaped (C:=Tryz.checked) (X:=fun w _=>laidMetH Tryz.prog Rows.actionReducedIsEnoughRow.laid w) (fun _ _ _ hh h=>h.of_heap hh) own started (by kernel_rfl) Tryz.func7
  (ChangeSpec.witness_shaped (enc:=enc) (C:=Tryz.checked) (os:=os) (X:=fun w _=>laidMetH Tryz.prog Rows.actionReducedIsEnoughRow.laid w) false (World.laidAll Tryz.prog os Rows.actionReducedIsEnoughRow.laid) #[.agg #[.string ⟨#[]⟩,.slice none 0 0,.slice none 0 0,.slice none 0 0,.slice none 0 0,.int .i64 0],.slice none 0 0] 8 (World.laidAll_os _ _ _)
   (World.shaped_of_ZipB (by kernel_rfl) (by kernel_rfl)) (by kernel_rfl) (by kernel_rfl) (by kernel_rfl)
   (by rw [MakeChecks.laidMetH_plain _ _ _ (by kernel_rfl)];exact laidMet_laidAll _ (by kernel_rfl) (by kernel_rfl))) ?_
 intro W base args ds gs before hval0 hW hsz0 hX1 hsh
 have hsz:(DataW.weightsEach Tryz.prog (Tryz.f7.params.toList++Rows.actionReducedIsEnoughSpec.plain.varTypes Tryz.prog) (ds++gs)).all (·≤reachBytes)=true:=hsz0
 have hval:∀(j:Nat) t v,Tryz.f7.params[j]? = some t→args[j]? = some v→Value.okWide Tryz.prog W .any base t v:=hval0
 have hW':=hW
 obtain ⟨p,q,hA0,hV,rfl,hfz,hnd⟩:=hW
 have hA:DataW.TrodAll enc Tryz.prog W 0 (fun _=>true) true Tryz.f7.params.toList args.toList ds p:=hA0
 rw [Tryz.params7] at hA hval hsz
 obtain ⟨v0,v1,d0,d1,p0,p1,hargs,rfl,rfl,h0,h1⟩:=trodAll_two hA
 obtain rfl:args = #[v0,v1]:=by cases args;simp_all
 obtain ⟨rfl,rfl⟩:=trodVars_none hV
 obtain ⟨x0,ok0,r0⟩:=arg_ok ty0 (hval 0 26 v0 rfl rfl) h0 (sized_each hsz (j:=0) rfl rfl)
 obtain ⟨x1,ok1,r1⟩:=arg_ok ty1 (hval 1 27 v1 rfl rfl) h1 (sized_each hsz (j:=1) rfl rfl)
 have lt0:∀x∈p0,x.block<W.heap.size:=by obtain ⟨m,hm⟩:=h0;exact DataW.trod_lt m _ _ _ hm
 have lt1:∀x∈p1,x.block<W.heap.size:=by obtain ⟨m,hm⟩:=h1;exact DataW.trod_lt m _ _ _ hm
 clear hA0 hval0 hsz0 hsz
 refine (walk x0 ok0 x1 ok1 v0 v1 W r0 r1 (tab hX1) hsh).mono fun e W' ⟨he,bel⟩=>?_
 subst he
 exact ⟨_,rfl,_,_,_,[],_,[],hW',trodAll_mk1 (shut_bool Tryz.underlying4 _),trodAll_mk2 (Below.trod laidOut (by kernel_rfl) (of_decide_eq_true (by kernel_rfl)) h0 bel lt0) (Below.trod laidOut (by kernel_rfl) (of_decide_eq_true (by kernel_rfl)) h1 bel lt1),rfl,bel.frame _,fun h=>by cases h⟩
end Go.Proofs.YtkneddlelcmmjaaGreatDoor
