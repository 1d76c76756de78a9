/- Parts of the proof: LmG, LmH, LmP, LmZ, LmXT, LmHb, TryzPlain, LmK, LmHc, LmHk, LmK3. -/
import Derived.Test.YtefkkflmiabfeaaGreatDoorLb
import Derived.Below
import Derived.Test.YtefkkflmiabfeaaGreatDoorProg
import Derived.Ground.GgzProg
import Derived.Shelf.SlIterI.Nil
import Derived.Shelf.SlIter.Nil
import Derived.Shelf.Lays
import Derived.Shelf.Strings.SlTrimAscii
import Derived.Shelf.Strings.Trim
import Derived.Shelf.Small.Utf8
import Derived.Shelf.Small.Bits
import Derived.Shelf.Small.Strs
import Derived.Shelf.Strconv.Atoi
import Derived.Shelf.Strconv.Itoa0
import Derived.Shelf.Strconv.Itoa1
import Derived.Shelf.LaysM
import Derived.Shelf.Strconv.Itoa2
import Derived.Shelf.Strconv.Itoa3
import Derived.Shelf.Strconv.AtoiErrFast
import Derived.Shelf.Strconv.ParseIntEmpty
import Derived.Shelf.Strconv.AtoiFail
import Derived.Shelf.Strconv.Clone
import Derived.Shelf.Strconv.SyntaxError
import Derived.Shelf.LaysC
import Derived.Shelf.Strconv.ToError
import Derived.Shelf.Strconv.Lower
import Derived.Shelf.Strconv.ParseUint10
import Derived.Shelf.Strconv.ParseUint10Empty
import Derived.Shelf.Strconv.ParseUint10Any
import Derived.Shelf.Strconv.ParseInt10
import Derived.Shelf.Strconv.AtoiLong
import Derived.Shelf.Strconv.AtoiInnerAll
import Derived.Shelf.Strconv.RangeError
import Derived.Shelf.Strconv.ToErrorRange
import Derived.Shelf.Strconv.AtoiAll
import Derived.Shelf.Strconv.ErrVarAll
import Derived.Shelf.Strings.Search1
import Derived.Shelf.Strings.Search2
import Derived.Shelf.Strings.Search3
import Derived.Shelf.Strings.Count
import Derived.Shelf.Strings.Shaped
import Derived.Shelf.GgClosure.StringsIndexFunc
import Derived.Ground.GgwProg
import Derived.Shelf.GgClosure.StringsIndexFuncTop
import Derived.Shelf.Strings.Split
import Derived.Shelf.Strings.Runes
import Derived.Shelf.Strings.AsciiSet
import Derived.Shelf.Unicode.DecodeSlow
import Derived.Shelf.Unicode.DecodeAny
import Derived.Shelf.Unicode.DecodeLast
import Derived.Shelf.Strings.FuncGrows
import Derived.Shelf.Slices.Turned
import Derived.Ground.Names2Prog
import Derived.Shelf.Slices.Clone
import Derived.Ground.SlgmProg
import Derived.Shelf.SortM.Plain
import Derived.Shelf.SortM.SortNone
import Derived.Shelf.Strings.Builder1
import Derived.Lib.AppendIntMem
import Derived.Lib.SmallJoins
set_option linter.unusedVariables false
set_option linter.unusedSimpArgs false
namespace Go.Lm
section
variable {R : Type} {P : Program} {T : Nat → Option TI} {C : Nat → Hd R}
def initE (args : List LV) (n : Nat) : List LV := args ++ List.replicate (n - args.length) .any
def cellV (T : Nat → Option TI) (t : Tmp) (ty : TypeId) (q : Q) : Option LV := match T ty,q.addr (.tmp t) with
 | some ti,some (d,p) => (match Nat.ble (p + ti.lk.length) (boxAt q.E d).length && Nat.blt 0 ti.lk.length && (isAggK ti.kd || Nat.beq ti.lk.length 1) with
  | true => some (part ti (boxAt q.E d) p)
  | false => none)
 | _,_ => none
def resQ (T : Nat → Option TI) : List ResultVar → Q → Option (List LV × Q)
 | [],q => some ([],q)
 | .tmp t :: rs,q => match resQ T rs (q.used (.tmp t)) with
  | some (l,q') => some (ev q.E (.tmp t) :: l,q')
  | none => none
 | .cell t ty :: rs,q => match cellV T t ty q,resQ T rs q with
  | some v,some (l,q') => some (v :: l,q')
  | _,_ => none
def pack : List LV → LV
 | [v] => v
 | vs => .tup vs
def fin (T : Nat → Option TI) (rs : List ResultVar) (K : LV → List LV → Option R) : LX → Q → Option R
 | .ext _,_ => none
 | _,q => match resQ T rs q with
  | some (l,q) => K (pack l) q.S
  | none => none
noncomputable def lbody (T : Nat → Option TI) (C : Nat → Hd R) (an : An R) (fn : Func) : Hd R := fun args S K => match fn.body with
 | some code => lexec T C an code ⟨initE args fn.ntmps,List.replicate fn.ntmps none,S⟩ (fin T fn.results.toList K)
 | none => none
def unpack : List Value → Value
 | [v] => v
 | vs => .tuple vs.toArray
theorem resQ_S {T : Nat → Option TI} : ∀ {rs : List ResultVar} {q q' : Q} {l : List LV},resQ T rs q = some (l,q') → q'.S = q.S ∧ l.length = rs.length
 | [],q,q',l,h => by cases h; exact ⟨rfl,rfl⟩
 | .tmp t :: rs,q,q',l,h => by
  simp only [resQ] at h
  split at h
  ·rename_i l1 q1 h1
   cases h
   obtain ⟨e1,e2⟩ := resQ_S h1
   exact ⟨e1.trans rfl,by simp [e2]⟩
  ·cases h
 | .cell t ty :: rs,q,q',l,h => by
  simp only [resQ] at h
  split at h
  ·rename_i v l1 q1 _ h1
   cases h
   obtain ⟨e1,e2⟩ := resQ_S h1
   exact ⟨e1,by simp [e2]⟩
  ·cases h
theorem RelO.noFly {fr : Fr} {q : Q} {a : Act} {c : Cx} {xs : List LV} {vs : List Value} {o : Ow} (h : RelO fr q a c xs vs o) : Rel fr q a c := by
 let o' : Ow := fun k => match k with
  | .arg _ => []
  | k => o k
 have sub : ∀ k g,g ∈ o' k → g ∈ o k := fun k g hg => by
  cases k with
  | arg i => simp [o'] at hg
  | env t => exact hg
  | sto id => exact hg
 exact ⟨o',h.len,h.alen,h.env,h.al,⟨h.sto.n,h.sto.r,h.sto.bd⟩,fun i hi => absurd hi (by simp),rfl,
  ⟨fun k => by cases k with
   | arg i => exact List.nodup_nil
   | env t => exact h.sep.nd _
   | sto id => exact h.sep.nd _,fun k k' g hne hg hg' => h.sep.dj k k' g hne (sub k g hg) (sub k' g hg')⟩,h.ext,fun k g hg => h.own k g (sub k g hg),h.df⟩
def resF (tmps : Array Value) : ResultVar → Sem Value
 | .tmp t => pure (tmps.getD t undef)
 | .cell t ty => do loadVar ty (← asAddr (tmps.getD t undef))
theorem cellV_ok (hT : ∀ t ti,T t = some ti → tiOf P t = some ti) {t : Tmp} {ty : TypeId} {q : Q} {x : LV} (h : cellV T t ty q = some x) {fr : Fr} {a : Act} {c : Cx} {xs : List LV} {vs : List Value} {o : Ow} (hr : RelO fr q a c xs vs o) :
  ∃ v,(do loadVar ty (← asAddr (a.tmps.getD t undef)) : Sem Value).run P c.w = .ok v c.w ∧ Rep c x v [] := by
 unfold cellV at h
 split at h
 ·rename_i ti d p ht ha
  split at h
  ·rename_i hz
   simp only [Bool.and_eq_true,Bool.or_eq_true] at hz
   cases h
   have hb := Nat.le_of_ble_eq_true hz.1.1
   have hpos : 0 < ti.lk.length := Nat.le_of_ble_eq_true hz.1.2
   obtain ⟨i,dd,hi,hd,hkd,hlk,_⟩ := tiOf_und (hT _ _ ht)
   obtain ⟨_,g',h1,h2⟩ := Rel.addr hr.noFly ha
   obtain ⟨o,hr⟩ := hr.noFly
   obtain ⟨hdl,hbx,g,cur,e,hv,hO,hs,hh,hI,ho1,hrep⟩ := Rel.boxR (d := d) hr (by omega)
   rw [h1] at hv
   simp at hv
   subst hv
   have hcell : ∀ j,j < (boxAt q.E d).length → c.w.cell? ⟨g',j,none⟩ = some (cur.getD j undef) := fun j hj => by
    have : j < cur.size := by rw [hs]; exact hj
    simp [World.cell?,hh,this,Array.getD_eq_getD_getElem?]
   have h2 : a.tmps.getD t undef = .pointer (some ⟨g',p,none⟩) := h2
   unfold part
   cases hk : isAggK ti.kd with
   | true =>
    simp only
    refine ⟨.agg ((List.range i.size).map fun j => cur.getD (p + j) undef).toArray,?_,?_⟩
    ·have := run_loadCells (P := P) c.w ⟨g',p,none⟩ i.size (fun j => cur.getD (p + j) undef) (fun j hj => by
      have hj' : j < ti.lk.length := by rw [hlk]; exact hj
      rw [Addr.add_lit]; exact hcell (p + j) (by omega))
     have h3 : (isAgg ty).run P c.w = .ok true c.w := by
      rcases isAggK_of (by rw [← hkd]; exact hk) with ⟨fs,rfl⟩ | ⟨n,e,rfl⟩ <;> simp [isAgg,run_underlying hd]
     simp [h2,asAddr,loadVar,h3,this,sizeOf,typeInfo,hi]
    ·have hlen : ((boxAt q.E d).drop p |>.take ti.lk.length).length = ti.lk.length := by simp; omega
     refine .agg _ _ (by rw [hlen]; simp [hlk]) (fun j hj => ?_)
     rw [hlen] at hj
     rw [getD_range_map _ (by rw [← hlk]; exact hj),getD_part _ _ _ _ hj]
     exact hrep (p + j) (by omega)
   | false =>
    simp only
    have h3 : (isAgg ty).run P c.w = .ok false c.w := by
     rw [hkd] at hk
     cases dd <;> simp [kdOf,isAggK] at hk <;> simp [isAgg,run_underlying hd]
    refine ⟨cur.getD p undef,?_,hrep p (by omega)⟩
    simp [h2,asAddr,loadVar,h3,hcell p (by omega)]
  ·cases h
 ·cases h
theorem resQ_ok (hT : ∀ t ti,T t = some ti → tiOf P t = some ti) : ∀ {rs : List ResultVar} {q q' : Q} {l : List LV},resQ T rs q = some (l,q') → ∀ {fr : Fr} {a : Act} {c : Cx} {xs : List LV} {vs : List Value} {o : Ow},RelO fr q a c xs vs o →
  ∃ us o',RelO fr q' a c (xs ++ l) (vs ++ us) o' ∧ us.length = l.length ∧ (rs.mapM (resF a.tmps)).run P c.w = .ok us c.w
 | [],q,q',l,h,fr,a,c,xs,vs,o,hr => by cases h; exact ⟨[],o,by simpa using hr,rfl,by simp⟩
 | .tmp t :: rs,q,q',l,h,fr,a,c,xs,vs,o,hr => by
  simp only [resQ] at h
  split at h
  ·rename_i l1 q1 h1
   cases h
   obtain ⟨o1,hr1⟩ := hr.take (.tmp t)
   obtain ⟨us,o2,hr2,hl,hm⟩ := resQ_ok hT h1 hr1
   refine ⟨a.tmps.getD t undef :: us,o2,by simpa [Act.eval] using hr2,by simp [hl],?_⟩
   rw [List.mapM_cons]
   simp only [resF,Sem.run_bind,Sem.run_pure,Result.andThen_ok]
   rw [hm]
   simp
  ·cases h
 | .cell t ty :: rs,q,q',l,h,fr,a,c,xs,vs,o,hr => by
  simp only [resQ] at h
  split at h
  ·rename_i v l1 q1 hv h1
   cases h
   obtain ⟨u,hu,hrep⟩ := cellV_ok (P := P) hT hv hr
   obtain ⟨o1,hr1⟩ := hr.fly1 hrep
   obtain ⟨us,o2,hr2,hl,hm⟩ := resQ_ok hT h1 hr1
   refine ⟨u :: us,o2,by simpa using hr2,by simp [hl],?_⟩
   rw [List.mapM_cons]
   have hu : (resF a.tmps (.cell t ty)).run P c.w = .ok u c.w := hu
   simp only [Sem.run_bind]
   rw [hu]
   simp only [Result.andThen_ok]
   rw [hm]
   simp
  ·cases h
theorem run_results {fn : Func} {tmps : Array Value} {w : World} {us : List Value} (h : (fn.results.toList.mapM (resF tmps)).run P w = .ok us w) :
  (results fn tmps).run P w = .ok (unpack us) w := by
 unfold results
 rw [Array.mapM_eq_mapM_toList]
 simp only [Sem.run_bind,Sem.run_map]
 show (((Sem.run P (List.mapM (resF tmps) fn.results.toList) w).andThen _).andThen _) = _
 rw [h]
 simp only [Result.andThen_ok,Sem.run_pure]
 congr 1
 match us with
 | [] => rfl
 | [t] => rfl
 | t :: t' :: ts => simp [unpack]
theorem rep_pack {c : Cx} {xs : List LV} {vs : List Value} {os : Nat → List Nat} (hl : vs.length = xs.length) (hr : ∀ i,i < xs.length → Rep c (xs.getD i .any) (vs.getD i undef) (os i)) :
  ∃ O,Rep c (pack xs) (unpack vs) O ∧ ((∀ i,i < xs.length → (os i).Nodup) → (∀ i j g,i < xs.length → j < xs.length → i ≠ j → g ∈ os i → g ∉ os j) → O.Nodup) ∧ ∀ g,g ∈ O → ∃ i,i < xs.length ∧ g ∈ os i := by
 have tupcase : ∀ (xs : List LV) (vs : List Value),vs.length = xs.length → (∀ i,i < xs.length → Rep c (xs.getD i .any) (vs.getD i undef) (os i)) → Rep c (.tup xs) (.tuple vs.toArray) (flatO xs.length os) := fun xs vs hl hr =>
  .tup xs vs.toArray os (by simp [hl]) (fun i hi => by
   have := hr i hi
   have hi' : i < vs.length := by omega
   simpa [List.getD_eq_getElem?_getD,Array.getD_eq_getD_getElem?,hi'] using this)
 match xs,vs,hl,hr with
 | [],[],hl,hr => exact ⟨_,tupcase [] [] hl hr,fun h1 h2 => flatO_nd_mk h1 h2,fun g hg => flatO_mem.1 hg⟩
 | [x],[v],hl,hr => exact ⟨os 0,(show Rep c x v (os 0) by simpa using hr 0 (by simp)),fun h1 _ => h1 0 (by simp),fun g hg => ⟨0,by simp,hg⟩⟩
 | x :: y :: xs,v :: u :: vs,hl,hr => exact ⟨_,tupcase _ _ hl hr,fun h1 h2 => flatO_nd_mk h1 h2,fun g hg => flatO_mem.1 hg⟩
theorem lbody_ok (hT : ∀ t ti,T t = some ti → tiOf P t = some ti) (hC : ∀ f,HSound P f (C f)) {an : An R} {f : FuncId} {fn : Func} (han : ∀ code,fn.body = some code → AnOk P an code) (hf : P.funcs[f]? = some fn) (hen : Enters P f) : HSound P f (lbody (R := R) T C an fn) := by
 intro args S K r h
 refine ⟨hen,?_⟩
 unfold lbody at h
 split at h
 ·rename_i code hb
  obtain ⟨x,q',h,hcode⟩ := lexec_ok hT hC an code (han code hb) _ _ r h
  have hx : (x = .nrm ∨ x = .ret) ∧ ∃ l q1,resQ T fn.results.toList q' = some (l,q1) ∧ K (pack l) q1.S = some r := by
   cases x with
   | ext id => simp [fin] at h
   | nrm =>
    simp only [fin] at h
    split at h
    ·rename_i l q1 hos; exact ⟨.inl rfl,l,q1,hos,h⟩
    ·cases h
   | ret =>
    simp only [fin] at h
    split at h
    ·rename_i l q1 hos; exact ⟨.inr rfl,l,q1,hos,h⟩
    ·cases h
  obtain ⟨hxx,l,q1,hos,hK⟩ := hx
  obtain ⟨hS,hll⟩ := resQ_S hos
  refine ⟨_,_,fun c vs o hvl hvr hsto hsep hlt => ?_,hK⟩
  let fr : Fr := ⟨c,fun g => ∃ k,g ∈ o k⟩
  let o0 : Ow := fun k => match k with
   | .env t => if t < args.length then o (.arg t) else []
   | .sto id => o (.sto id)
   | .arg _ => []
  have hsub : ∀ k g,g ∈ o0 k → ∃ k',g ∈ o k' ∧ ((∃ t,k = .env t ∧ k' = .arg t) ∨ ∃ id,k = .sto id ∧ k' = .sto id) := fun k g hg => by
   cases k with
   | env t =>
    simp only [o0] at hg
    split at hg
    ·exact ⟨.arg t,hg,.inl ⟨t,rfl,rfl⟩⟩
    ·simp at hg
   | sto id => exact ⟨.sto id,hg,.inr ⟨id,rfl,rfl⟩⟩
   | arg i => simp [o0] at hg
  have hrel : Rel fr ⟨initE args fn.ntmps,List.replicate fn.ntmps none,S⟩ { tmps := vs.toArray ++ Array.replicate (fn.ntmps - vs.toArray.size) undef,defers := [] } c := by
   refine ⟨o0,by simp [initE,hvl],by simp [initE]; omega,fun t ht => ?_,fun t d p hp => ?_,⟨hsto.n,hsto.r,hsto.bd⟩,fun i hi => absurd hi (by simp),rfl,⟨fun k => ?_,fun k k' g hne hg hg' => ?_⟩,Ext.refl _ _,fun k g hg => ?_,rfl⟩
   ·by_cases h1 : t < args.length
    ·have e1 : (initE args fn.ntmps).getD t .any = args.getD t .any := by unfold initE; exact getD_app_lt _ _ _ _ h1
     have e2 : (vs.toArray ++ Array.replicate (fn.ntmps - vs.toArray.size) undef).getD t undef = vs.getD t undef := by
      have : t < vs.length := by omega
      simp [Array.getD_eq_getD_getElem?,List.getD_eq_getElem?_getD,Array.getElem?_append,this]
     show Rep c ((initE args fn.ntmps).getD t .any) _ _
     rw [e1]
     show Rep c _ ((vs.toArray ++ Array.replicate (fn.ntmps - vs.toArray.size) undef).getD t undef) _
     rw [e2]
     simp only [o0,h1,if_true]
     exact hvr t h1
    ·have e1 : (initE args fn.ntmps).getD t .any = .any := by
      unfold initE
      simp only [List.getD_eq_getElem?_getD]
      rw [List.getElem?_append_right (by omega),List.getElem?_replicate]
      split <;> rfl
     show Rep c ((initE args fn.ntmps).getD t .any) _ _
     rw [e1]
     simp only [o0,h1,if_false]
     exact .any _
   ·simp only [List.getD_eq_getElem?_getD,List.getElem?_replicate] at hp
    split at hp <;> simp at hp
   ·cases k with
    | env t => simp only [o0]; split; exact hsep.nd _; exact List.nodup_nil
    | sto id => exact hsep.nd _
    | arg i => exact List.nodup_nil
   ·obtain ⟨k1,h1,h1'⟩ := hsub k g hg
    obtain ⟨k2,h2,h2'⟩ := hsub k' g hg'
    refine hsep.dj k1 k2 g (fun e => ?_) h1 h2
    rcases h1' with ⟨t,rfl,rfl⟩ | ⟨id,rfl,rfl⟩ <;> rcases h2' with ⟨t',rfl,rfl⟩ | ⟨id',rfl,rfl⟩ <;> simp at e
    ·exact hne (by rw [e])
    ·exact hne (by rw [e])
   ·obtain ⟨k1,h1,_⟩ := hsub k g hg
    exact ⟨hlt k1 g h1,.inl ⟨k1,h1⟩⟩
  refine calls_of_wp hf hb (hcode fr _ c hrel _ fun a' c' hr' => ?_)
  have hfin : a'.defers = [] ∧ ∃ v,(results fn a'.tmps).run P c'.w = .ok v c'.w ∧ ∃ c'' v' o',(Ending.returned v) = .returned v' ∧ c''.w = c'.w ∧ Ext c c'' (fun g => ∃ k,g ∈ o k) ∧ Rep c'' (pack l) v' (o' (.arg 0)) ∧ Sto c'' q1.S o' ∧ Sep o' ∧
    (∀ k g,g ∈ o' k → g < c'.w.heap.size ∧ ((∃ k',g ∈ o k') ∨ c.w.heap.size ≤ g)) ∧ ∀ t,o' (.env t) = [] := by
   obtain ⟨ow,hr'⟩ := hr'
   obtain ⟨us,o1,h1,hlu,hm⟩ := resQ_ok hT hos hr'
   simp only [List.nil_append] at h1
   obtain ⟨O,hrep,hnd,hmem⟩ := rep_pack (os := fun i => o1 (.arg i)) h1.flyl h1.fly
   let o' : Ow := fun k => match k with
    | .env _ => []
    | .sto id => o1 (.sto id)
    | .arg i => if i = 0 then O else []
   have hO' : ∀ k g,g ∈ o' k → ∃ k',g ∈ o1 k' ∧ ((k = .arg 0 ∧ ∃ i,k' = .arg i) ∨ ∃ id,k = .sto id ∧ k' = .sto id) := fun k g hg => by
    cases k with
    | env t => simp [o'] at hg
    | sto id => exact ⟨.sto id,hg,.inr ⟨id,rfl,rfl⟩⟩
    | arg i =>
     simp only [o'] at hg
     split at hg
     ·rename_i e
      subst e
      obtain ⟨j,_,hj⟩ := hmem g hg
      exact ⟨.arg j,hj,.inl ⟨rfl,j,rfl⟩⟩
     ·simp at hg
   refine ⟨h1.df,_,run_results hm,c',_,o',rfl,rfl,h1.ext,hrep,⟨h1.sto.n,fun id hid => h1.sto.r id hid,h1.sto.bd⟩,⟨fun k => ?_,fun k k' g hne hg hg' => ?_⟩,fun k g hg => ?_,fun t => rfl⟩
   ·cases k with
    | env t => exact List.nodup_nil
    | sto id => exact h1.sep.nd _
    | arg i =>
     simp only [o']
     split
     ·exact hnd (fun i _ => h1.sep.nd _) (fun i j g _ _ hne hg => h1.sep.dj _ _ g (by simp [hne]) hg)
     ·exact List.nodup_nil
   ·obtain ⟨k1,hk1,hk1'⟩ := hO' k g hg
    obtain ⟨k2,hk2,hk2'⟩ := hO' k' g hg'
    refine h1.sep.dj k1 k2 g (fun e => ?_) hk1 hk2
    rcases hk1' with ⟨rfl,i,rfl⟩ | ⟨id,rfl,rfl⟩ <;> rcases hk2' with ⟨rfl,i',rfl⟩ | ⟨id',rfl,rfl⟩ <;> simp at e
    ·exact hne rfl
    ·exact hne (by rw [e])
   ·obtain ⟨k1,hk1,_⟩ := hO' k g hg
    exact h1.own k1 g hk1
  obtain ⟨hdf,v,hrun,c'',v',o',h2⟩ := hfin
  have hw : c''.w = c'.w := h2.2.1
  rcases hxx with rfl | rfl
  ·exact ⟨hdf,v,hrun,c'',v',o',h2⟩
  ·exact ⟨hdf,v,hrun,c'',v',o',h2⟩
 ·cases h
open Classical in
theorem LCalls.co {f : FuncId} {args S S' : List LV} {r : LV} {m : Mk} (h : LCalls P f (m.co args) S r S') : LCalls P f args S r S' := by
 intro c vs o hl hr hsto hsep hlt
 let o' : Ow := fun k => match k with
  | .arg t => if Rep c ((m.co args).getD t .any) (vs.getD t undef) (o (.arg t)) then o (.arg t) else []
  | k => o k
 have sub : ∀ k g,g ∈ o' k → g ∈ o k := fun k g hg => by
  cases k with
  | arg t => simp only [o'] at hg; split at hg; exact hg; simp at hg
  | sto id => exact hg
  | env i => exact hg
 refine (h c vs o' (by rw [co_len]; exact hl) (fun i hi => ?_) ⟨hsto.n,hsto.r,hsto.bd⟩ ⟨fun k => ?_,fun k k' g hne hg hg' => hsep.dj k k' g hne (sub k g hg) (sub k' g hg')⟩ (fun k g hg => hlt k g (sub k g hg))).mono ?_
 ·rw [co_len] at hi
  simp only [o']
  split
  ·assumption
  ·rename_i hn
   rcases co_rep (m := m) (hr i hi) with h1 | h1
   ·exact absurd h1 hn
   ·exact h1
 ·cases k with
  | arg t => simp only [o']; split <;> simp [hsep.nd]
  | sto id => exact hsep.nd _
  | env i => exact hsep.nd _
 ·rintro e w' ⟨c',v,o1,he,hw,hext,hrep,hs,hsp,hown,henv⟩
  exact ⟨c',v,o1,he,hw,hext.mono (fun b ⟨k,hb⟩ => ⟨k,sub k b hb⟩),hrep,hs,hsp,fun k g hg => ⟨(hown k g hg).1,(hown k g hg).2.elim (fun ⟨k',hk⟩ => .inl ⟨k',sub k' g hk⟩) .inr⟩,henv⟩
def hT (ps : Mk) (f : ps.ty → List LV → (LV → List LV → Option R) → Option R) : Hd R := fun args S K =>
 match Nat.beq args.length ps.length with
 | true => (match ps.dec (ps.co args) with
  | some x => f x S K
  | none => none)
 | false => none
theorem hT_ok {f : FuncId} {hd : Hd R} {ps : Mk} {g : ps.ty → List LV → (LV → List LV → Option R) → Option R} (h : HSound P f hd) (he : ∀ x S K,hd (ps.enc x) S K = g x S K) : HSound P f (hT ps g) := by
 intro args S K r h1
 unfold hT at h1
 split at h1
 ·split at h1
  ·rename_i x hx
   rw [← he,← Mk.dec_enc ps _ x hx] at h1
   obtain ⟨hen,v,S',hc,hk⟩ := h _ S K r h1
   exact ⟨hen,v,S',hc.co,hk⟩
  ·cases h1
 ·cases h1
def resE (m : Mk) (x : m.ty) : LV := pack (m.enc x)
def tabT (l : List (Option TI)) (t : Nat) : Option TI := l.getD t none
def TabT (P : Program) : Nat → List (Option TI) → Prop
 | _,[] => True
 | n,none :: l => TabT P (n + 1) l
 | n,some ti :: l => tiOf P n = some ti ∧ TabT P (n + 1) l
theorem tabT_ok' : ∀ {l : List (Option TI)} {n : Nat},TabT P n l → ∀ t ti,l.getD t none = some ti → tiOf P (n + t) = some ti
 | [],n,_,t,ti,h => by simp at h
 | none :: l,n,hl,0,ti,h => by simp at h
 | none :: l,n,hl,t + 1,ti,h => by
  have := tabT_ok' (n := n + 1) hl t ti (by simpa using h)
  rwa [show n + 1 + t = n + (t + 1) by omega] at this
 | some _ :: l,n,hl,0,ti,h => by
  simp only [List.getD_cons_zero,Option.some.injEq] at h
  subst h; exact hl.1
 | some _ :: l,n,hl,t + 1,ti,h => by
  have := tabT_ok' (n := n + 1) hl.2 t ti (by simpa using h)
  rwa [show n + 1 + t = n + (t + 1) by omega] at this
theorem tabT_ok {l : List (Option TI)} (h : TabT P 0 l) (t : Nat) (ti : TI) (ht : tabT l t = some ti) : tiOf P t = some ti := by
 have := tabT_ok' h t ti ht
 rwa [Nat.zero_add] at this
theorem fn_ok {T : Nat → Option TI} {C : Nat → Hd R} (hT : ∀ t ti,T t = some ti → tiOf P t = some ti) (hC : ∀ f,HSound P f (C f)) {an : An R} {f : FuncId} {fn : Func} (code : Code) (hb : fn.body = some code) (han : AnOk P an code)
  (hf : P.funcs[f]? = some fn) (hen : Enters P f) {ps : Mk} {g : ps.ty → List LV → (LV → List LV → Option R) → Option R}
  (he : ∀ x S K,lbody T C an fn (ps.enc x) S K = g x S K) : HSound P f (Lm.hT ps g) :=
 hT_ok (lbody_ok hT hC (fun c hc => by rw [hb] at hc; cases hc; exact han) hf hen) he
def sub : Code → List Bool → Code
 | c,[] => c
 | .seq a _,false :: p => sub a p
 | .seq _ b,true :: p => sub b p
 | .block _ c,_ :: p => sub c p
 | .loop c,_ :: p => sub c p
 | .cond _ a _,false :: p => sub a p
 | .cond _ _ b,true :: p => sub b p
 | c,_ => c
def bs (l : List Nat) : ByteArray := ⟨(l.map UInt8.ofNat).toArray⟩
theorem enters_ok {f : FuncId} {fn : Func} (hf : P.funcs[f]? = some fn) (hname : (fn.name == "runtime.NumGoroutine") = false) (hb : fn.body.isSome = true) : Enters P f := fun args w => by
 have h1 : fn.name ≠ "runtime.NumGoroutine" := by simpa using hname
 obtain ⟨c,hc⟩ := Option.isSome_iff_exists.1 hb
 simp [callFunc,hf,h1,hc]
end
end Go.Lm
namespace Go.Lm
section
variable {R : Type} {P : Program}
theorem rigid_rep {c : Cx} {x : LV} {v u : Value} {O : List Nat} (h : rigid x = some v) (r : Rep c x u O) : u = v := by
 cases x <;> simp only [rigid] at h <;> try (cases h; done)
 ·cases h; exact rep_int r
 ·cases h; exact rep_bool r
 ·cases h; exact rep_str r
theorem rigid_mk {c : Cx} {x : LV} {v : Value} (h : rigid x = some v) : Rep c x v [] := by
 cases x <;> simp only [rigid] at h <;> try (cases h; done)
 ·cases h; exact .int _ _
 ·cases h; exact .bool _
 ·cases h; exact .str _
def rigids : List LV → Option (List Value)
 | [] => some []
 | x :: xs => match rigid x,rigids xs with
  | some v,some vs => some (v :: vs)
  | _,_ => none
theorem rigids_rep {c : Cx} : ∀ {xs : List LV} {vs us : List Value} {o : Nat → List Nat},rigids xs = some vs → us.length = xs.length → (∀ i,i < xs.length → Rep c (xs.getD i .any) (us.getD i undef) (o i)) → us = vs
 | [],vs,us,o,h,hl,_ => by cases h; exact List.eq_nil_of_length_eq_zero hl
 | x :: xs,vs,[],o,h,hl,_ => by simp at hl
 | x :: xs,vs,u :: us,o,h,hl,hr => by
  simp only [rigids] at h
  split at h
  ·rename_i v vs' h1 h2
   cases h
   have e1 := rigid_rep h1 (hr 0 (by simp))
   have e2 := rigids_rep (o := fun i => o (i + 1)) h2 (by simpa using hl) (fun i hi => by have := hr (i + 1) (by simpa using hi); simpa using this)
   simp only [List.getD_cons_zero] at e1
   rw [e1,e2]
  ·cases h
theorem LCalls.ofS {f : FuncId} {args S : List LV} {r : LV} (h : ∀ (c : Cx) (vs : List Value) (o : Nat → List Nat),vs.length = args.length → (∀ i,i < args.length → Rep c (args.getD i .any) (vs.getD i undef) (o i)) →
   (∀ b p,c.I b p → b < c.w.heap.size) → (∀ id,id < S.length → ∃ O,Rep c (S.getD id .any) (oval (S.getD id .any) (c.ι id)) O) → Calls P f vs.toArray c.w fun e w' => ∃ c' v O,e = .returned v ∧ c'.w = w' ∧ Ext c c' (fun _ => False) ∧ Rep c' r v O ∧ O.Nodup ∧ (∀ g,g ∈ O → c.w.heap.size ≤ g ∧ g < w'.heap.size) ∧ c'.n = c.n ∧ ∀ b p,c'.I b p → b < w'.heap.size) : LCalls P f args S r S := by
 intro c vs o hl hr hsto hsep hlt
 refine (h c vs (fun i => o (.arg i)) hl hr hsto.bd (fun id hid => ⟨_,hsto.r id hid⟩)).mono ?_
 rintro e w' ⟨c',v,O,he,hw,hext,hrep,hnd,hO,hn,hbd⟩
 subst hw
 let o' : Ow := fun k => match k with
  | .env _ => []
  | .sto id => o (.sto id)
  | .arg i => if i = 0 then O else []
 have key : ∀ k g,g ∈ o' k → (∃ id,k = .sto id ∧ g ∈ o (.sto id)) ∨ (k = .arg 0 ∧ g ∈ O) := fun k g hg => by
  cases k with
  | env t => simp [o'] at hg
  | sto id => exact .inl ⟨id,rfl,hg⟩
  | arg i =>
   simp only [o'] at hg
   split at hg
   ·rename_i e; subst e; exact .inr ⟨rfl,hg⟩
   ·simp at hg
 refine ⟨c',v,o',he,rfl,hext.mono (fun b h => h.elim),hrep,⟨hn.trans hsto.n,fun id hid => ?_,hbd⟩,⟨fun k => ?_,fun k k' g hne hg hg' => ?_⟩,fun k g hg => ?_,fun t => rfl⟩
 ·have h1 := (hsto.r id hid).ext hext (by simp)
  rw [hext.ι id (by rw [hsto.n]; exact hid)]
  exact h1
 ·cases k with
  | env t => exact List.nodup_nil
  | sto id => exact hsep.nd _
  | arg i => simp only [o']; split; exact hnd; exact List.nodup_nil
 ·rcases key k g hg with ⟨id,rfl,h1⟩ | ⟨rfl,h1⟩ <;> rcases key k' g hg' with ⟨id',rfl,h2⟩ | ⟨rfl,h2⟩
  ·exact hsep.dj _ _ g hne h1 h2
  ·have := hlt _ g h1; have := (hO g h2).1; omega
  ·have := hlt _ g h2; have := (hO g h1).1; omega
  ·exact absurd rfl hne
 ·rcases key k g hg with ⟨id,rfl,h1⟩ | ⟨rfl,h1⟩
  ·exact ⟨Nat.lt_of_lt_of_le (hlt _ g h1) hext.size,.inl ⟨_,h1⟩⟩
  ·exact ⟨(hO g h1).2,.inr (hO g h1).1⟩
theorem LCalls.of {f : FuncId} {args S : List LV} {r : LV} (h : ∀ (c : Cx) (vs : List Value) (o : Nat → List Nat),vs.length = args.length → (∀ i,i < args.length → Rep c (args.getD i .any) (vs.getD i undef) (o i)) →
   (∀ b p,c.I b p → b < c.w.heap.size) → Calls P f vs.toArray c.w fun e w' => ∃ c' v O,e = .returned v ∧ c'.w = w' ∧ Ext c c' (fun _ => False) ∧ Rep c' r v O ∧ O.Nodup ∧ (∀ g,g ∈ O → c.w.heap.size ≤ g ∧ g < w'.heap.size) ∧ c'.n = c.n ∧ ∀ b p,c'.I b p → b < w'.heap.size) : LCalls P f args S r S :=
 LCalls.ofS fun c vs o hl hr hbd _ => h c vs o hl hr hbd
theorem LCalls.same {f : FuncId} {args S : List LV} {vals : List Value} {r : LV} {v : Value} (ha : rigids args = some vals) (hr : rigid r = some v) (h : ∀ w,Calls P f vals.toArray w fun e w' => e = .returned v ∧ w' = w) : LCalls P f args S r S := by
 refine LCalls.of fun c vs o hl hrep hbd => ?_
 rw [rigids_rep ha hl hrep]
 refine (h c.w).mono ?_
 rintro e w' ⟨he,rfl⟩
 exact ⟨c,v,[],he,rfl,Ext.refl _ _,rigid_mk hr,List.nodup_nil,by simp,rfl,hbd⟩
theorem LCalls.below {f : FuncId} {args S : List LV} {vals : List Value} {r : LV} {v : Value} (ha : rigids args = some vals) (hr : rigid r = some v) (h : ∀ w,Calls P f vals.toArray w fun e w' => e = .returned v ∧ RowKit.Below w.heap.size w w') : LCalls P f args S r S := by
 refine LCalls.of fun c vs o hl hrep hbd => ?_
 rw [rigids_rep ha hl hrep]
 refine (h c.w).mono ?_
 rintro e w' ⟨he,hb⟩
 exact ⟨{ c with w := w' },v,[],he,rfl,⟨Nat.le_refl _,fun _ _ => rfl,fun _ _ h => h,fun b o h => World.cell?_of_block (w := c.w) (hb.block b (hbd b o h)),hb.size,fun b hlt _ => hb.block b hlt,fun _ _ _ _ h => h,(fun _ _ _ _ h _ => False.elim h),hb.os,hb.tape,hb.output⟩,
  rigid_mk hr,List.nodup_nil,by simp,rfl,fun b p h => Nat.lt_of_lt_of_le (hbd b p h) hb.size⟩
theorem LCalls.belowG {f : FuncId} {args S : List LV} {vals : List Value} {r : LV} {v : Value} {id k : Nat} {ob : Obj} (hS : S.getD id .any = .glob k ob) (ha : rigids args = some vals) (hr : rigid r = some v)
  (h : ∀ w,w.heap[k]? = some ob → Calls P f vals.toArray w fun e w' => e = .returned v ∧ RowKit.Below w.heap.size w w') : LCalls P f args S r S := by
 refine LCalls.ofS fun c vs o hl hrep hbd hsto => ?_
 rw [rigids_rep ha hl hrep]
 have hid : id < S.length := by
  rcases Nat.lt_or_ge id S.length with h1 | h1
  ·exact h1
  ·rw [List.getD_eq_getElem?_getD,List.getElem?_eq_none h1] at hS; cases hS
 have hh : c.w.heap[k]? = some ob := by
  obtain ⟨O,h2⟩ := hsto id hid
  rw [hS] at h2
  generalize oval (.glob k ob) (c.ι id) = z at h2
  cases h2 with
  | glob _ _ hh => exact hh
 refine (h c.w hh).mono ?_
 rintro e w' ⟨he,hb⟩
 exact ⟨{ c with w := w' },v,[],he,rfl,⟨Nat.le_refl _,fun _ _ => rfl,fun _ _ h => h,fun b o h => World.cell?_of_block (w := c.w) (hb.block b (hbd b o h)),hb.size,fun b hlt _ => hb.block b hlt,fun _ _ _ _ h => h,(fun _ _ _ _ h _ => False.elim h),hb.os,hb.tape,hb.output⟩,
  rigid_mk hr,List.nodup_nil,by simp,rfl,fun b p h => Nat.lt_of_lt_of_le (hbd b p h) hb.size⟩
theorem LCalls.row {f : FuncId} {args S : List LV} {vals : List Value} {xs : List LV} {us : List Value} {e : TypeId} (ha : rigids args = some vals) (hx : rigids xs = some us) (hl : us.length = xs.length) (hmax : xs.length ≤ 9223372036854775807)
  (h : ∀ w,Calls P f vals.toArray w fun en w' => en = .returned (.slice (some ⟨w.heap.size,0,none⟩) xs.length xs.length) ∧ w' = w.alloc (.cells us.toArray e)) : LCalls P f args S (.sl 1 xs) S := by
 refine LCalls.of fun c vs o hvl hrep hbd => ?_
 rw [rigids_rep ha hvl hrep]
 refine (h c.w).mono ?_
 rintro en w' ⟨hen,rfl⟩
 have hsz : (c.w.alloc (.cells us.toArray e)).heap.size = c.w.heap.size + 1 := by simp
 have hget : ∀ i,i < xs.length → ∃ v,rigid (xs.getD i .any) = some v ∧ us.getD i undef = v ∧ v.oneCell' = true := by
  clear hl hmax hen hsz hrep hvl ha h
  induction xs generalizing us with
  | nil => intro i hi; simp at hi
  | cons x xs ih =>
   intro i hi
   simp only [rigids] at hx
   split at hx
   ·rename_i v vs' h1 h2
    cases hx
    cases i with
    | zero =>
     refine ⟨v,by simpa using h1,by simp,?_⟩
     cases x <;> simp only [rigid] at h1 <;> first | (cases h1; rfl) | cases h1
    | succ i => obtain ⟨v',h3,h4,h5⟩ := ih h2 i (by simpa using hi); exact ⟨v',by simpa using h3,by simpa using h4,h5⟩
   ·cases hx
 have hc : ∀ p,p < xs.length → (c.w.alloc (.cells us.toArray e)).cell? ⟨c.w.heap.size,0 + p,none⟩ = some (us.getD p undef) := fun p hp => by
  have hp' : p < us.length := by omega
  simp [hp',List.getD_eq_getElem?_getD]
 refine ⟨{ c with w := c.w.alloc (.cells us.toArray e),I := fun b p => c.I b p ∨ (b = c.w.heap.size ∧ p < xs.length) },_,[],hen,rfl,?_,?_,List.nodup_nil,by simp,rfl,fun b p hb => ?_⟩
 ·refine ⟨Nat.le_refl _,fun _ _ => rfl,fun b o hb => .inl hb,fun b o hb => ?_,by rw [hsz]; omega,fun b hb _ => ?_,fun b o hb _ hi => ?_,(fun _ _ _ _ h _ => False.elim h),rfl,rfl,rfl⟩
  ·have := hbd b o hb
   show World.cell? (c.w.alloc _) _ = _
   exact World.cell?_alloc_old _ _ _ (Nat.ne_of_lt this)
  ·show (c.w.alloc (.cells us.toArray e)).heap[b]? = _
   show (c.w.heap.push (.cells us.toArray e))[b]? = _
   rw [Array.getElem?_push_lt hb,Array.getElem?_eq_getElem hb]
  ·rcases hi with hi | ⟨rfl,_⟩
   ·exact hi
   ·omega
 ·refine .sl 1 c.w.heap.size 0 xs.length xs (fun p => us.getD p undef) (Nat.le_refl _) hmax (fun p hp => hc p (by omega)) (fun p hp => .inr ⟨rfl,by omega⟩) (fun p hp => ?_) (fun p hp => ?_)
  ·obtain ⟨v,_,h2,h3⟩ := hget p (by omega); rw [h2]; exact h3
  ·obtain ⟨v,h1,h2,h3⟩ := hget p (by omega)
   rw [h2,Nat.div_one,Nat.mod_one]
   have : leaf (xs.getD p .any) 0 = xs.getD p .any := by
    cases hz : xs.getD p .any <;> rw [hz] at h1 <;> simp only [rigid] at h1 <;> first | rfl | cases h1
   rw [this]
   exact rigid_mk h1
 ·show b < (c.w.alloc (.cells us.toArray e)).heap.size
  rw [hsz]
  rcases hb with hb | ⟨rfl,_⟩
  ·have := hbd b p hb; omega
  ·omega
def handF (ps rs : Mk) (g : ps.ty → Option rs.ty) (x : ps.ty) (S : List LV) (K : rs.ty → List LV → Option R) : Option R := match g x with
 | some r => K r S
 | none => none
theorem hand_ok {f : FuncId} (hen : Enters P f) {ps rs : Mk} {g : ps.ty → Option rs.ty} (hv : ∀ x r S,g x = some r → LCalls P f (ps.enc x) S (resE rs r) S) :
  HSound P f (hT (R := R) ps fun x S K => handF ps rs g x S fun r S => K (resE rs r) S) := by
 intro args S K r h
 unfold hT at h
 split at h
 ·split at h
  ·rename_i x hx
   simp only [handF] at h
   split at h
   ·rename_i y hy
    refine ⟨hen,_,S,?_,h⟩
    have := hv x y S hy
    rw [← Mk.dec_enc ps _ x hx] at this
    exact this.co
   ·cases h
  ·cases h
 ·cases h
theorem LCalls.nilCases {f : FuncId} {sz : Nat} {xs S : List LV} {r : LV} {S' : List LV} (h0 : xs = [] → LCalls P f [.nilsl] S r S') (h1 : LCalls P f [.nsl sz xs] S r S') : LCalls P f [.sl sz xs] S r S' := by
 intro c vs o hl hr hsto hsep hlt
 have hr0 := hr 0 (by simp)
 simp only [List.getD_cons_zero] at hr0
 have hO : Rep c (.sl sz xs) (vs.getD 0 undef) [] := hr0.dup
 obtain ⟨A,cap,hv,_⟩ := rep_sl hr0
 have one : ∀ (y : LV),Rep c y (vs.getD 0 undef) [] → LCalls P f [y] S r S' → Calls P f vs.toArray c.w fun e w' => ∃ c' v o',e = .returned v ∧ c'.w = w' ∧ Ext c c' (fun g => ∃ k,g ∈ o k) ∧ Rep c' r v (o' (.arg 0)) ∧ Sto c' S' o' ∧ Sep o' ∧
   (∀ k g,g ∈ o' k → g < w'.heap.size ∧ ((∃ k',g ∈ o k') ∨ c.w.heap.size ≤ g)) ∧ ∀ t,o' (.env t) = [] := by
  intro y hy hc
  let o1 : Ow := upd o (.arg 0) []
  have sub : ∀ k g,g ∈ o1 k → g ∈ o k := fun k g hg => by
   simp only [o1,upd] at hg
   split at hg
   ·simp at hg
   ·exact hg
  refine (hc c vs o1 (by simpa using hl) (fun i hi => ?_) ⟨hsto.n,fun id hid => ?_,hsto.bd⟩ (hsep.drop _) (fun k g hg => hlt k g (sub k g hg))).mono ?_
  ·have : i = 0 := by simpa using hi
   subst this
   simp only [o1,upd_same,List.getD_cons_zero]
   exact hy
  ·simp only [o1]; rw [upd_other _ _ (by simp)]; exact hsto.r id hid
  ·rintro e w' ⟨c',v,o2,he,hw,hext,hrep,hs,hsp,hown,henv⟩
   exact ⟨c',v,o2,he,hw,hext.mono (fun b ⟨k,hb⟩ => ⟨k,sub k b hb⟩),hrep,hs,hsp,fun k g hg => ⟨(hown k g hg).1,(hown k g hg).2.elim (fun ⟨k',hk⟩ => .inl ⟨k',sub k' g hk⟩) .inr⟩,henv⟩
 cases A with
 | none =>
  rw [hv] at hO
  obtain ⟨hx,hn,hcap⟩ := rep_sl_nil hO
  refine one .nilsl ?_ (h0 hx)
  rw [hv,hn,hcap]
  exact .nilsl
 | some a => exact one (.nsl sz xs) (.nsl sz xs _ a _ cap hv hO) h1
theorem HSound.calls {f : FuncId} {h : Hd (LV × List LV)} (hs : HSound P f h) {args S S' : List LV} {r : LV} (he : h args S (fun v S => some (v,S)) = some (r,S')) : LCalls P f args S r S' := by
 obtain ⟨_,v,S1,hc,h1⟩ := hs args S _ _ he
 cases h1
 exact hc
end
end Go.Lm
namespace Go.Lm
section
variable {R : Type} {P : Program}
def noIdL : LV → Bool
 | .ptr _ _ => false
 | .map _ => false
 | .osl _ _ _ _ => false
 | .sl _ _ => false
 | .own _ _ _ => false
 | .nsl _ _ => false
 | .cptr _ _ _ => false
 | .fn _ _ => false
 | .agg _ => false
 | .tup _ => false
 | .lbox _ => false
 | .mp _ _ => false
 | .obj _ _ => false
 | .vec _ _ => false
 | .glob _ _ => false
 | _ => true
def noId : Nat → LV → Bool
 | 0,v => noIdL v
 | n + 1,v => match v with
  | .sl _ xs => xs.all (noId n)
  | .own _ _ xs => xs.all (noId n)
  | .agg xs => xs.all (noId n)
  | .tup xs => xs.all (noId n)
  | v => noIdL v
theorem all_getD {xs : List LV} {f : LV → Bool} (h : xs.all f = true) (h0 : f .any = true) (i : Nat) : f (xs.getD i .any) = true := by
 rw [List.getD_eq_getElem?_getD]
 cases hx : xs[i]? with
 | none => exact h0
 | some x => exact List.all_eq_true.1 h x (List.mem_of_getElem? hx)
theorem noId_any (n : Nat) : noId n .any = true := by cases n <;> rfl
theorem noId_leaf {n : Nat} {x : LV} (h : noId n x = true) (j : Nat) : noId n (leaf x j) = true ∨ ∃ m,noId m (leaf x j) = true := by
 cases x with
 | agg xs =>
  cases n with
  | zero => cases h
  | succ n => exact .inr ⟨n,all_getD h (noId_any n) j⟩
 | _ =>
  cases j with
  | zero => exact .inl h
  | succ j => exact .inl (noId_any n)
def Cx.cut (c : Cx) (n : Nat) : Cx := { c with n := n }
theorem Rep.cutNo {c : Cx} {m : Nat} {x : LV} {v : Value} {O : List Nat} (r : Rep c x v O) : ∀ {n : Nat},noId n x = true → Rep (c.cut m) x v O := by
 induction r with
 | int k n => intro _ _; exact .int k n
 | bool b => intro _ _; exact .bool b
 | str s => intro _ _; exact .str s
 | nilsl => intro _ _; exact .nilsl
 | sl0 sz a cap hn => intro _ _; exact .sl0 sz a cap hn
 | sl sz b off cap xs cv hcap hmax hc hI h1 hr ih =>
  intro n h
  refine .sl sz b off cap xs cv hcap hmax hc hI h1 (fun p hp => ?_)
  cases n with
  | zero => cases h
  | succ n =>
   rcases noId_leaf (all_getD h (noId_any n) (p / sz)) (p % sz) with h2 | ⟨_,h2⟩
   ·exact ih p hp h2
   ·exact ih p hp h2
 | own0 e sz => intro _ _; exact .own0 e sz
 | own e sz g cap xs cur hcap hmax hh hs hI h1 hr ih =>
  intro n h
  refine .own e sz g cap xs cur hcap hmax hh hs hI h1 (fun p hp => ?_)
  cases n with
  | zero => cases h
  | succ n =>
   rcases noId_leaf (all_getD h (noId_any n) (p / sz)) (p % sz) with h2 | ⟨_,h2⟩
   ·exact ih p hp h2
   ·exact ih p hp h2
 | cptr => intro n h; cases n <;> cases h
 | ptr => intro n h; cases n <;> cases h
 | nilp => intro _ _; exact .nilp
 | map => intro n h; cases n <;> cases h
 | nilm => intro _ _; exact .nilm
 | fn => intro n h; cases n <;> cases h
 | nilf => intro _ _; exact .nilf
 | nili => intro _ _; exact .nili
 | agg xs cs hs hr ih =>
  intro n h
  refine .agg xs cs hs (fun i hi => ?_)
  cases n with
  | zero => cases h
  | succ n => exact ih i hi (all_getD h (noId_any n) i)
 | tup xs cs os hs hr ih =>
  intro n h
  refine .tup xs cs os hs (fun i hi => ?_)
  cases n with
  | zero => cases h
  | succ n => exact ih i hi (all_getD h (noId_any n) i)
 | lbox => intro n h; cases n <;> cases h
 | any v => intro _ _; exact .any v
 | und => intro _ _; exact .und
 | mp => intro n h; cases n <;> cases h
 | obj => intro n h; cases n <;> cases h
 | vec => intro n h; cases n <;> cases h
 | glob k ob hh => intro n h; cases n <;> cases h
 | osl => intro n h; cases n <;> cases h
 | nsl => intro n h; cases n <;> cases h
theorem Rep.cutOld {c : Cx} {x : LV} {v : Value} {O : List Nat} (r : Rep c x v O) : ∀ {c0 : Cx} {v0 : Value} {O0 : List Nat},Rep c0 x v0 O0 → Rep (c.cut c0.n) x v O := by
 induction r with
 | int k n => intro _ _ _ _; exact .int k n
 | bool b => intro _ _ _ _; exact .bool b
 | str s => intro _ _ _ _; exact .str s
 | nilsl => intro _ _ _ _; exact .nilsl
 | sl0 sz a cap hn => intro _ _ _ _; exact .sl0 sz a cap hn
 | sl sz b off cap xs cv hcap hmax hc hI h1 hr ih =>
  intro c0 v0 O0 r0
  refine .sl sz b off cap xs cv hcap hmax hc hI h1 (fun p hp => ?_)
  cases r0 with
  | sl0 => simp at hp
  | sl _ _ _ _ _ _ _ _ _ _ _ hr0 => exact ih p hp (hr0 p hp)
 | own0 e sz => intro _ _ _ _; exact .own0 e sz
 | own e sz g cap xs cur hcap hmax hh hs hI h1 hr ih =>
  intro c0 v0 O0 r0
  refine .own e sz g cap xs cur hcap hmax hh hs hI h1 (fun p hp => ?_)
  cases r0 with
  | own0 => simp at hp
  | own _ _ _ _ _ _ _ _ _ _ _ _ hr0 => exact ih p hp (hr0 p hp)
 | cptr x o n b off cv ho hc hI h1 hr ih =>
  intro c0 v0 O0 r0
  refine .cptr x o n b off cv ho hc hI h1 (fun p hp => ?_)
  cases r0 with
  | cptr _ _ _ _ _ _ _ _ _ _ hr0 => exact ih p hp (hr0 p hp)
 | ptr id o hid => intro c0 v0 O0 r0; cases r0 with | ptr _ _ h0 => exact .ptr (c := c.cut c0.n) id o h0
 | nilp => intro _ _ _ _; exact .nilp
 | map id hid => intro c0 v0 O0 r0; cases r0 with | map _ h0 => exact .map (c := c.cut c0.n) id h0
 | nilm => intro _ _ _ _; exact .nilm
 | fn f caps cs hs hr ih =>
  intro c0 v0 O0 r0
  cases r0 with
  | fn _ _ _ _ hr0 => exact .fn f caps cs hs (fun i hi => ih i hi (hr0 i hi))
 | nilf => intro _ _ _ _; exact .nilf
 | nili => intro _ _ _ _; exact .nili
 | agg xs cs hs hr ih =>
  intro c0 v0 O0 r0
  cases r0 with
  | agg _ _ _ hr0 => exact .agg xs cs hs (fun i hi => ih i hi (hr0 i hi))
 | tup xs cs os hs hr ih =>
  intro c0 v0 O0 r0
  cases r0 with
  | tup _ _ _ _ hr0 => exact .tup xs cs os hs (fun i hi => ih i hi (hr0 i hi))
 | lbox xs g cur e hs hh hI h1 hr ih =>
  intro c0 v0 O0 r0
  cases r0 with
  | lbox _ _ _ _ _ _ _ _ hr0 => exact .lbox xs g cur e hs hh hI h1 (fun i hi => ih i hi (hr0 i hi))
 | any v => intro _ _ _ _; exact .any v
 | und => intro _ _ _ _; exact .und
 | mp kd kvs g es clock hh hst hs hk hI hr ih =>
  intro c0 v0 O0 r0
  cases r0 with
  | mp _ _ _ _ _ _ _ _ _ _ hr0 => exact .mp kd kvs g es clock hh hst hs hk hI (fun i hi => ih i hi (hr0 i hi))
 | obj e xs g cur os hs hh hI h1 hr ih =>
  intro c0 v0 O0 r0
  cases r0 with
  | obj _ _ _ _ _ _ _ _ _ hr0 => exact .obj e xs g cur os hs hh hI h1 (fun i hi => ih i hi (hr0 i hi))
 | vec e xs g cur os hs hh hI h1 hr ih =>
  intro c0 v0 O0 r0
  cases r0 with
  | vec _ _ _ _ _ _ _ _ _ hr0 => exact .vec e xs g cur os hs hh hI h1 (fun i hi => ih i hi (hr0 i hi))
 | glob k ob hh => intro c0 v0 O0 r0; exact .glob k ob hh
 | osl id o sz n cap hid hcap hmax hz => intro c0 v0 O0 r0; cases r0 with | osl _ _ _ _ _ h0 => exact .osl (c := c.cut c0.n) id o sz n cap h0 hcap hmax hz
 | nsl sz xs v a n cap hv _ ih =>
  intro c0 v0 O0 r0
  cases r0 with
  | nsl _ _ _ _ _ _ _ h0 => exact .nsl sz xs v a n cap hv (ih h0)
theorem LCalls.pop {f : FuncId} {args S G : List LV} {r : LV} {n : Nat} (h : LCalls P f args S r (S ++ G)) (hr : noId n r = true) : LCalls P f args S r S := by
 intro c vs o hl hrep hsto hsep hlt
 refine (h c vs o hl hrep hsto hsep hlt).mono ?_
 rintro e w' ⟨c',v,o',he,hw,hext,hrp,hst,hsp,hown,henv⟩
 let o2 : Ow := fun k => match k with
  | .sto id => if id < S.length then o' (.sto id) else []
  | k => o' k
 have sub : ∀ k g,g ∈ o2 k → g ∈ o' k := fun k g hg => by
  cases k with
  | sto id => simp only [o2] at hg; split at hg; exact hg; simp at hg
  | env t => exact hg
  | arg i => exact hg
 refine ⟨c'.cut c.n,v,o2,he,hw,⟨Nat.le_refl _,hext.ι,hext.I,hext.cell,hext.size,hext.block,hext.back,hext.fit,hext.os,hext.tape,hext.output⟩,hrp.cutNo hr,⟨hsto.n,fun id hid => ?_,hst.bd⟩,⟨fun k => ?_,fun k k' g hne h1 h2 => hsp.dj k k' g hne (sub k g h1) (sub k' g h2)⟩,fun k g hg => hown k g (sub k g hg),henv⟩
 ·have h1 : (S ++ G).getD id .any = S.getD id .any := getD_app_lt _ _ _ _ hid
  have h2 := hst.r id (by simp; omega)
  rw [h1] at h2
  simp only [o2,hid,if_true]
  exact h2.cutOld (hsto.r id hid)
 ·cases k with
  | sto id => simp only [o2]; split; exact hsp.nd _; exact List.nodup_nil
  | env t => exact hsp.nd _
  | arg i => exact hsp.nd _
theorem LS.enc_dec (s : LS) (x : s.ty) : s.dec (s.enc x) = some x := by
 cases s <;> simp [LS.dec,LS.enc] <;> rfl
theorem encL_decLs : ∀ (l : List LS) (x : LTys l),decLs l (encL l x) = some x
 | [],x => rfl
 | s :: l,x => by simp [decLs,encL,LS.enc_dec,encL_decLs l]; rfl
theorem SH.enc_dec : ∀ (s : SH) (x : s.ty),s.dec (s.enc x) = some x
 | .lf s,x => by
  have h := LS.enc_dec s x
  show SH.dec (.lf s) (s.enc x) = some x
  exact h
 | .agg l,x => encL_decLs l x
 | .lbox l,x => encL_decLs l x
 | .fn f l,x => by
  show (match Nat.beq f f with | true => decLs l (encL l x) | false => none) = some x
  rw [Nat.beq_refl]; exact encL_decLs l x
theorem Mk.enc_dec : ∀ (m : Mk) (x : m.ty),m.dec (m.enc x) = some x
 | [],_ => rfl
 | none :: m,x => Mk.enc_dec m x
 | some s :: m,x => by
  show (match s.dec (s.enc x.1) with | some y => (match Mk.dec m (Mk.enc m x.2) with | some z => some (y,z) | none => none) | none => none) = some x
  rw [SH.enc_dec,Mk.enc_dec m]; rfl
def decR (m : Mk) (v : LV) : Option m.ty := match m.dec [v] with
 | some x => some x
 | none => match v with
  | .tup vs => m.dec vs
  | _ => none
theorem Mk.enc_len : ∀ (m : Mk) (x : m.ty),(m.enc x).length = m.length
 | [],_ => rfl
 | none :: m,x => by
  show (LV.any :: Mk.enc m x).length = _
  simp [Mk.enc_len m x]
 | some s :: m,x => by simp [Mk.enc,Mk.enc_len m]
theorem Mk.dec_len : ∀ (m : Mk) (vs : List LV) (x : m.ty),m.dec vs = some x → vs.length = m.length := fun m vs x h => by rw [Mk.dec_enc m vs x h,Mk.enc_len]
theorem decR_enc (m : Mk) (x : m.ty) : decR m (resE m x) = some x := by
 unfold decR resE
 have hl := Mk.enc_len m x
 have hd := Mk.enc_dec m x
 match hm : m.enc x with
 | [v] =>
  rw [hm] at hd
  simp [pack,hd]
 | [] =>
  rw [hm] at hd hl
  have : m.dec [LV.tup []] = none := by
   cases h : m.dec [LV.tup []] with
   | none => rfl
   | some y => have := Mk.dec_len m _ y h; simp at this hl; omega
  simp [pack,this,hd]
 | v :: u :: l =>
  rw [hm] at hd hl
  have : m.dec [LV.tup (v :: u :: l)] = none := by
   cases h : m.dec [LV.tup (v :: u :: l)] with
   | none => rfl
   | some y => have := Mk.dec_len m _ y h; simp at this hl; omega
  simp [pack,this,hd]
theorem decR_some {m : Mk} {v : LV} {x : m.ty} (h : decR m v = some x) (hp : ∃ y,v = resE m y) : v = resE m x := by
 obtain ⟨y,rfl⟩ := hp
 rw [decR_enc] at h
 cases h; rfl
open Classical in
noncomputable def popK (rs : Mk) (n : Nat) (S : List LV) (m : Option (LV × List LV)) (K : rs.ty → List LV → Option R) : Option R := match m with
 | some (v,S') => if noId n v = true ∧ (∃ G,S' = S ++ G) ∧ ∃ y,v = resE rs y then (match decR rs v with
  | some r => K r S
  | none => none) else none
 | none => none
theorem pop_ok {f : FuncId} {ps rs : Mk} {n : Nat} {g : ps.ty → List LV → (LV → List LV → Option (LV × List LV)) → Option (LV × List LV)} (h : HSound P f (hT ps g)) :
  HSound P f (hT (R := R) ps fun x S K => popK rs n S (g x S fun v S => some (v,S)) fun r S => K (resE rs r) S) := by
 intro args S K r h1
 unfold hT at h1
 split at h1
 ·rename_i hl
  split at h1
  ·rename_i x hx
   unfold popK at h1
   dsimp only at h1
   split at h1
   ·rename_i v1 S1 he
    split at h1
    ·rename_i hg
     obtain ⟨h2,⟨G,rfl⟩,h3⟩ := hg
     split at h1
     ·rename_i r1 hr1
      have hv := decR_some hr1 h3
      have ht : hT ps g args S (fun v S => some (v,S)) = some (v1,S ++ G) := by
       unfold hT
       rw [hl,hx]
       exact he
      obtain ⟨hen,v',S',hc,hk⟩ := h args S _ _ ht
      cases hk
      exact ⟨hen,_,S,by rw [← hv]; exact hc.pop h2,h1⟩
     ·cases h1
    ·cases h1
   ·cases h1
  ·cases h1
 ·cases h1
theorem popK_at {rs : Mk} {n : Nat} {S G : List LV} {r : rs.ty} {K : rs.ty → List LV → Option R} {m : Option (LV × List LV)} (hm : m = some (resE rs r,S ++ G)) (hr : noId n (resE rs r) = true) : popK rs n S m K = K r S := by
 subst hm
 unfold popK
 dsimp only
 rw [if_pos ⟨hr,⟨G,rfl⟩,r,rfl⟩,decR_enc]
def cloneF (bytes : Nat) (x : List LV × Unit) : Option (List LV × Unit) := match decide ((0 + x.1.length) * bytes ≤ 140737488355328 ∧ 0 + x.1.length ≤ 9223372036854775807) with
 | true => some (x.1,())
 | false => none
theorem cloneF_some {bytes : Nat} {xs : List LV} {u : Unit} {r : List LV × Unit} (h : cloneF bytes (xs,u) = some r) : r = (xs,()) ∧ decide ((([] : List LV).length + xs.length) * bytes ≤ 140737488355328 ∧ ([] : List LV).length + xs.length ≤ 9223372036854775807) = true := by
 simp only [cloneF] at h
 split at h
 ·rename_i hd; cases h; exact ⟨rfl,hd⟩
 ·cases h
theorem app_at {b : Nat} {ys xs : List LV} {K : List LV → Option R} (h : decide ((ys.length + xs.length) * b ≤ 140737488355328 ∧ ys.length + xs.length ≤ 9223372036854775807) = true) : app b ys xs K = K (ys ++ xs) := by
 unfold app
 rw [h]
 rfl
end
end Go.Lm
namespace Go.Lm
abbrev LL := List LV
abbrev U1 := Unit
abbrev BA := ByteArray
abbrev Kt (R α : Type) := α → List LV → Option R
abbrev N2 := Nat × Nat
abbrev N3 := Nat × Nat × Nat
theorem tr : True := trivial
abbrev n1 (m : Mk) : Mk := none :: m
abbrev n2 (m : Mk) : Mk := none :: none :: m
abbrev n3 (m : Mk) : Mk := none :: none :: none :: m
abbrev n4 (m : Mk) : Mk := none :: none :: none :: none :: m
abbrev n5 (m : Mk) : Mk := none :: none :: none :: none :: none :: m
abbrev n6 (m : Mk) : Mk := none :: none :: none :: none :: none :: none :: m
abbrev n7 (m : Mk) : Mk := none :: none :: none :: none :: none :: none :: none :: m
abbrev n8 (m : Mk) : Mk := none :: none :: none :: none :: none :: none :: none :: none :: m
abbrev n9 (m : Mk) : Mk := none :: none :: none :: none :: none :: none :: none :: none :: none :: m
abbrev nX (m : Mk) : Mk := none :: none :: none :: none :: none :: none :: none :: none :: none :: none :: m
def nM (k : Nat) (m : Mk) : Mk := List.replicate k none ++ m
abbrev sh (s : SH) (m : Mk) : Mk := some s :: m
abbrev sI (m : Mk) : Mk := some (.lf (.int .i64)) :: m
abbrev sB (m : Mk) : Mk := some (.lf .bool) :: m
abbrev sS (m : Mk) : Mk := some (.lf .str) :: m
abbrev sL (z : Nat) (m : Mk) : Mk := some (.lf (.sl z)) :: m
abbrev sO (e z : Nat) (m : Mk) : Mk := some (.lf (.own e z)) :: m
abbrev sP (m : Mk) : Mk := some (.lf .ptr) :: m
abbrev sQ (z : Nat) (m : Mk) : Mk := some (.lf (.osl z)) :: m
abbrev sR (m : Mk) : Mk := some (.lf .raw) :: m
abbrev sA (l : List LS) (m : Mk) : Mk := some (.agg l) :: m
abbrev sX (l : List LS) (m : Mk) : Mk := some (.lbox l) :: m
abbrev jI : LS := .int .i64
def z0 : LK → LV
 | .int k => .int k 0
 | .bool => .bool false
 | .str => .str (.mk (.mk []))
 | .sl _ => .nilsl
 | .ptr => .nilp
 | .map => .nilm
 | .fn => .nilf
 | .oth => .nili
def tL (kd : KD) (l : LK) : Option TI := some { kd,lk := [l],zero := [z0 l],zv := z0 l }
def tS (e b el : Nat) : Option TI := some { kd := .slice,lk := [.sl e],zero := [.nilsl],esz := e,ebytes := b,el,zv := .nilsl }
def tM (el key : Nat) : Option TI := some { kd := .map,lk := [.map],zero := [.nilm],el,key,zv := .nilm }
def tT (lk : List LK) (fs : List (Nat × Nat × TypeId)) : Option TI := some { kd := .struct,lk,zero := lk.map z0,fs,zv := .agg (lk.map z0) }
def tE (lk : List LK) (fs : List (Nat × Nat × TypeId)) : Option TI := some { kd := .struct,lk,zero := lk.map z0,fs,eq := some lk,zv := .agg (lk.map z0) }
def bitsN : Nat → Nat → List Bool
 | 0,_ => []
 | f + 1,n => match Nat.ble n 1 with
  | true => []
  | false => Nat.beq (n % 2) 1 :: bitsN f (n / 2)
def cd (fn : Func) : Code := fn.body.getD .skip
theorem cd_eq {fn : Func} (h : fn.body.isSome = true) : fn.body = some (cd fn) := by
 unfold cd
 cases hb : fn.body with
 | none => rw [hb] at h; cases h
 | some c => rfl
def su (fn : Func) (n : Nat) : Code := sub (cd fn) (bitsN 200 n)
section
variable {R : Type} {P : Program}
abbrev kR (K : LX → Q → Option R) (m : Mk) : m.ty → List LV → Option R := fun o S => K .ret (Qm m o S)
abbrev kN (K : LX → Q → Option R) (m : Mk) : m.ty → List LV → Option R := fun o S => K .nrm (Qm m o S)
abbrev kX (K : LX → Q → Option R) (i : Nat) (m : Mk) : m.ty → List LV → Option R := fun o S => K (.ext i) (Qm m o S)
structure Ent (P : Program) (R : Type) where
 f : Nat
 h : Hd R
 ok : HSound P f h
def entC : List (Ent P R) → Nat → Hd R
 | [],_ => fun _ _ _ => none
 | e :: l,f => match Nat.beq f e.f with
  | true => e.h
  | false => entC l f
theorem entC_ok : ∀ (l : List (Ent P R)) (f : Nat),HSound P f (entC l f)
 | [],f => fun args S K r h => by simp [entC] at h
 | e :: l,f => by
  unfold entC
  split
  ·rename_i h; have := Nat.eq_of_beq_eq_true h; subst this; exact e.ok
  ·exact entC_ok l f
structure Pc (P : Program) (R : Type) (c : Code) where
 h : Q → (LX → Q → Option R) → Option R
 ok : PieceOk P c h
variable {T : Nat → Option TI} (hT : ∀ t ti,T t = some ti → tiOf P t = some ti)
include hT
def mkLoop (C : List (Ent P R)) (c : Code) (m : Mk) (k : Nat) (an : An R) (han : AnOk P an c)
  (b : (LX → Q → Option R) → (m.ty → List LV → Option R) → m.ty → List LV → Option R)
  (hb : ∀ (K : LX → Q → Option R) (rec : Q → Option R) x S,lexec T (entC C) an c (Qm m x S) (fun x q => match x with | .nrm => rec (q.mask m) | x => K x q) = b K (fun x S => rec (Qm m x S)) x S := by intros; kernel_rfl) : Pc P R (.loop c) :=
 ⟨typed m fun x S K => rounds (b K) k x S,loop_ok (lexec_ok hT (entC_ok C) an c han) (m := m) (k := k) (b := b) hb⟩
def mkCut (C : List (Ent P R)) (c : Code) (m : Mk) (an : An R) (han : AnOk P an c)
  (f : m.ty → List LV → (LX → Q → Option R) → Option R) (he : ∀ x S K,lexec T (entC C) an c (Qm m x S) K = f x S K := by intros; kernel_rfl) : Pc P R c :=
 ⟨typed m f,typed_ok (lexec_ok hT (entC_ok C) an c han) he⟩
def mkEnd (C : List (Ent P R)) (c : Code) (m z : Mk) (an : An R) (han : AnOk P an c)
  (f : m.ty → List LV → (LX → Q → Option R) → Option R) (he : ∀ x S K,maskEnd z (lexec T (entC C) an c) (Qm m x S) K = f x S K := by intros; kernel_rfl) : Pc P R c :=
 ⟨typed m f,typed_ok (maskEnd_ok (lexec_ok hT (entC_ok C) an c han)) he⟩
def mkFn {n : Nat} {fn : Func} (hf : P.funcs[n]? = some fn) (ps rs : Mk) (C : List (Ent P R)) (an : An R) (han : AnOk P an (cd fn))
  (g : ps.ty → List LV → (rs.ty → List LV → Option R) → Option R) (h1 : (fn.name == "runtime.NumGoroutine") = false := by kernel_rfl) (h2 : fn.body.isSome = true := by kernel_rfl)
  (he : ∀ x S K,lbody T (entC C) an fn (ps.enc x) S K = g x S fun r S => K (resE rs r) S := by intros; kernel_rfl) : Ent P R :=
 ⟨n,Lm.hT ps fun x S K => g x S fun r S => K (resE rs r) S,fn_ok hT (entC_ok C) (cd fn) (cd_eq h2) han hf (enters_ok hf h1 h2) he⟩
end
noncomputable def mkPop {R : Type} {P : Program} {n : Nat} {ps rs : Mk} {g : ps.ty → List LV → (LV → List LV → Option (LV × List LV)) → Option (LV × List LV)} (h : HSound P n (hT ps g)) : Ent P R :=
 ⟨n,hT ps fun x S K => popK rs 6 S (g x S fun v S => some (v,S)) fun r S => K (resE rs r) S,pop_ok h⟩
open Classical in
noncomputable def nilK {R : Type} (rs : Mk) (z : Nat) (xs : List LV) (m : LV → Option (LV × List LV)) (K : rs.ty → List LV → Option R) : Option R := match m (.nsl z xs) with
 | some (v,S') => if (xs = [] → m .nilsl = some (v,S')) ∧ ∃ y,v = resE rs y then (match decR rs v with
  | some r => K r S'
  | none => none) else none
 | none => none
theorem nilK_at {R : Type} {rs : Mk} {z : Nat} {xs : List LV} {m : LV → Option (LV × List LV)} {K : rs.ty → List LV → Option R} {r : rs.ty} {S' : List LV} (h1 : m (.nsl z xs) = some (resE rs r,S')) (h0 : xs = [] → m .nilsl = some (resE rs r,S')) : nilK rs z xs m K = K r S' := by
 unfold nilK
 rw [h1]
 dsimp only
 rw [if_pos ⟨h0,r,rfl⟩,decR_enc]
theorem nil_ok {R : Type} {P : Program} {f : FuncId} {rs : Mk} {z : Nat} {g : LV × Unit → List LV → (LV → List LV → Option (LV × List LV)) → Option (LV × List LV)} (h : HSound P f (hT [some (.lf .raw)] g)) :
  HSound P f (hT (R := R) [some (.lf (.sl z))] fun (x : List LV × Unit) S K => nilK rs z x.1 (fun v => g (v,()) S fun v S => some (v,S)) fun r S => K (resE rs r) S) := by
 intro args S K r h1
 unfold hT at h1
 split at h1
 ·rename_i hl
  split at h1
  ·rename_i x hx
   unfold nilK at h1
   dsimp only at h1
   split at h1
   ·rename_i v1 S1 he
    split at h1
    ·rename_i hg
     obtain ⟨h0,h3⟩ := hg
     split at h1
     ·rename_i r1 hr1
      have hv := decR_some hr1 h3
      have key : ∀ w : LV,g (w,()) S (fun v S => some (v,S)) = some (v1,S1) → Enters P f ∧ LCalls P f [w] S v1 S1 := fun w hw => by
       obtain ⟨hen,v',S',hc,hk⟩ := h [w] S (fun v S => some (v,S)) (v1,S1) hw
       cases hk
       exact ⟨hen,hc⟩
      obtain ⟨xs,u⟩ := x
      obtain ⟨hen,hc1⟩ := key _ he
      have hc : LCalls P f [.sl z xs] S v1 S1 := LCalls.nilCases (fun e => (key _ (h0 e)).2) hc1
      have := Mk.dec_enc _ _ _ hx
      rw [show Mk.enc [some (.lf (.sl z))] (xs,u) = [.sl z xs] from rfl] at this
      rw [← this] at hc
      exact ⟨hen,v1,S1,hc.co,by rw [hv]; exact h1⟩
     ·cases h1
    ·cases h1
   ·cases h1
  ·cases h1
 ·cases h1
noncomputable def mkNil {R : Type} {P : Program} {n : Nat} (rs : Mk) (z : Nat) {g : LV × Unit → List LV → (LV → List LV → Option (LV × List LV)) → Option (LV × List LV)} (h : HSound P n (hT [some (.lf .raw)] g)) : Ent P R :=
 ⟨n,hT [some (.lf (.sl z))] fun (x : List LV × Unit) S K => nilK rs z x.1 (fun v => g (v,()) S fun v S => some (v,S)) fun r S => K (resE rs r) S,nil_ok h⟩
end Go.Lm
set_option linter.unusedVariables false
namespace Go.Lm
open Go.Proofs
noncomputable abbrev PG : Program := Tryz.prog
def types : List (Option TI) := [none,
tL .func .fn,
tL (.int .i64) (.int .i64),
tL (.int .i64) (.int .i64),
tL .bool .bool,
tL (.int .u8) (.int .u8),
tL (.int .u8) (.int .u8),
tE [.int .i64,.int .i64,.bool,.int .u8] [(0,1,2),(1,1,3),(2,1,4),(3,1,6)],
tE [.int .i64,.int .i64,.bool,.int .u8] [(0,1,2),(1,1,3),(2,1,4),(3,1,6)],
tL .str .str,
tL .str .str,
tL .str .str,
tL (.int .u64) (.int .u64),
tT [.str,.int .u64] [(0,1,9),(1,1,12)],
tT [.str,.int .u64] [(0,1,9),(1,1,12)],
tL .ptr .ptr,
tL .ptr .ptr,
tL .ptr .ptr,
tT [.ptr] [(0,1,17)],
tT [.ptr] [(0,1,17)],
tL .iface .oth,
tL (.int .i32) (.int .i32),
tS 8 160 53,
tS 1 16 9,
tL (.int .i64) (.int .i64),
none,
tL .func .fn,
tL .func .fn,
tS 2 32 33,
none,
tL .func .fn,
tL .func .fn,
tE [.str,.str] [(0,1,9),(1,1,9)],
tE [.str,.str] [(0,1,9),(1,1,9)],
tL .func .fn,
tL .func .fn,
tL .func .fn,
tL .func .fn,
tL .func .fn,
tL .func .fn,
tL .func .fn,
tL .func .fn,
tL .ptr .ptr,
none,
tL .func .fn,
tS 1 8 3,
none,
tL .func .fn,
tS 1 24 23,
tS 2 32 107,
tT [.str,.sl 1,.sl 2,.sl 1,.sl 2,.int .i64] [(0,1,9),(1,1,48),(2,1,49),(3,1,23),(4,1,49),(5,1,3)],
tT [.str,.sl 1,.sl 2,.sl 1,.sl 2,.int .i64] [(0,1,9),(1,1,48),(2,1,49),(3,1,23),(4,1,49),(5,1,3)],
tT [.str,.str,.sl 1,.sl 2,.sl 1,.sl 2,.int .i64,.sl 1] [(0,1,9),(1,6,51),(7,1,23)],
tT [.str,.str,.sl 1,.sl 2,.sl 1,.sl 2,.int .i64,.sl 1] [(0,1,9),(1,6,51),(7,1,23)],
tS 8 136 62,
none,
tL .func .fn,
tS 3 40 124,
tS 3 48 182,
tT [.int .i64,.str,.sl 3,.sl 3,.int .i64] [(0,1,3),(1,1,9),(2,1,58),(3,1,57),(4,1,3)],
tT [.int .i64,.str,.sl 3,.sl 3,.int .i64] [(0,1,3),(1,1,9),(2,1,58),(3,1,57),(4,1,3)],
tT [.str,.str,.sl 3,.int .i64,.str,.sl 3,.sl 3,.int .i64] [(0,1,9),(1,1,9),(2,1,57),(3,5,60)],
tT [.str,.str,.sl 3,.int .i64,.str,.sl 3,.sl 3,.int .i64] [(0,1,9),(1,1,9),(2,1,57),(3,5,60)],
tM 3 9,
tS 1 24 45,
tT [.sl 8,.map,.sl 1] [(0,1,22),(1,1,63),(2,1,64)],
tT [.sl 8,.map,.sl 1] [(0,1,22),(1,1,63),(2,1,64)],
tL .func .fn,
tL .func .fn,
tL .func .fn,
tL .func .fn,
tL .func .fn,
none,
tL .func .fn,
tS 1 1 4,
tL .func .fn,
tL .func .fn,
tM 4 9,
tL .func .fn,
tL .func .fn,
tL .func .fn,
tL .func .fn,
tL .func .fn,
tL .func .fn,
none,
tL .func .fn,
tL .func .fn,
tL .func .fn,
tL .func .fn,
tL .func .fn,
tL .func .fn,
tT [.map,.map,.map,.map] [(0,1,77),(1,1,77),(2,1,77),(3,1,77)],
tT [.map,.map,.map,.map] [(0,1,77),(1,1,77),(2,1,77),(3,1,77)],
tL .func .fn,
tM 4 3,
tL .func .fn,
tL .func .fn,
tL .func .fn,
tL .func .fn,
tL .func .fn,
tL .func .fn,
tL .func .fn,
tL .func .fn,
tL .func .fn,
tL .func .fn,
tL .func .fn,
tE [.str,.str] [(0,1,9),(1,1,9)],
tE [.str,.str] [(0,1,9),(1,1,9)],
tL .func .fn,
tL .func .fn,
tL .func .fn,
tL .func .fn,
tL .func .fn,
tL .func .fn,
tL .func .fn,
tL .func .fn,
tL .func .fn,
tL .func .fn,
tL .func .fn,
tL .func .fn,
tL .func .fn,
tL .func .fn,
tL .func .fn,
tE [.str,.str,.bool] [(0,1,9),(1,1,9),(2,1,4)],
tE [.str,.str,.bool] [(0,1,9),(1,1,9),(2,1,4)],
tL .func .fn,
tL .func .fn,
tL .func .fn,
tL .func .fn,
tL (.int .u64) (.int .u64),
tL .func .fn,
tL .func .fn,
tL .func .fn,
tL .func .fn,
tL .func .fn,
tL .func .fn,
tL .func .fn,
tL .func .fn,
tL .func .fn,
tL .func .fn,
tL .func .fn,
tL .func .fn,
tL .func .fn,
tL .func .fn,
tL (.int .i64) (.int .i64),
none,
tL .func .fn,
tL .func .fn,
tL .func .fn,
tL .func .fn,
tL .func .fn,
tL (.int .u32) (.int .u32),
tL .func .fn,
tL (.int .u64) (.int .u64),
tL .func .fn,
none,
tL .func .fn,
tL .func .fn,
tL .func .fn,
tL .func .fn,
tL .func .fn,
tL .func .fn,
tL .func .fn,
tL .func .fn,
tL .func .fn,
tL .func .fn,
tL .func .fn,
tL .func .fn,
tL .func .fn,
tL .func .fn,
tL .func .fn,
tL .func .fn,
tL .func .fn,
none,
none,
none,
tL .func .fn,
tL .func .fn,
tL .ptr .ptr,
tL .func .fn,
tS 1 1 5,
tT [.str,.bool,.sl 1] [(0,1,9),(1,1,4),(2,1,180)],
tT [.str,.bool,.sl 1] [(0,1,9),(1,1,4),(2,1,180)],
tL .func .fn,
tL .func .fn,
tL (.int .u64) (.int .u64),
tL .func .fn,
tL .func .fn,
tL .func .fn,
tL .ptr .ptr,
tL .func .fn,
tL .func .fn,
tL .func .fn,
none,
tL .func .fn,
tL .func .fn,
tL .func .fn,
tL .func .fn,
tL .func .fn,
tL .func .fn,
tL .func .fn,
tL .func .fn,
tL .func .fn,
tL .ptr .ptr,
none,
tL .func .fn,
tL .func .fn,
tL .func .fn,
tL .func .fn,
tL .func .fn,
tL .func .fn,
tL .iface .oth,
tL .iface .oth,
none,
tL .func .fn,
none,
tE [.int .u8,.int .u8] [(0,1,5),(1,1,5)],
tE [.int .u8,.int .u8] [(0,1,5),(1,1,5)],
some (.mk .array [(.int .u8),(.int .u8),(.int .u8),(.int .u8),(.int .u8),(.int .u8),(.int .u8),(.int .u8),(.int .u8),(.int .u8),(.int .u8),(.int .u8),(.int .u8),(.int .u8),(.int .u8),(.int .u8),(.int .u8),(.int .u8),(.int .u8),(.int .u8),(.int .u8),(.int .u8),(.int .u8),(.int .u8),(.int .u8),(.int .u8),(.int .u8),(.int .u8),(.int .u8),(.int .u8),(.int .u8),(.int .u8)] [(.int .u8 (.ofNat 0)),(.int .u8 (.ofNat 0)),(.int .u8 (.ofNat 0)),(.int .u8 (.ofNat 0)),(.int .u8 (.ofNat 0)),(.int .u8 (.ofNat 0)),(.int .u8 (.ofNat 0)),(.int .u8 (.ofNat 0)),(.int .u8 (.ofNat 0)),(.int .u8 (.ofNat 0)),(.int .u8 (.ofNat 0)),(.int .u8 (.ofNat 0)),(.int .u8 (.ofNat 0)),(.int .u8 (.ofNat 0)),(.int .u8 (.ofNat 0)),(.int .u8 (.ofNat 0)),(.int .u8 (.ofNat 0)),(.int .u8 (.ofNat 0)),(.int .u8 (.ofNat 0)),(.int .u8 (.ofNat 0)),(.int .u8 (.ofNat 0)),(.int .u8 (.ofNat 0)),(.int .u8 (.ofNat 0)),(.int .u8 (.ofNat 0)),(.int .u8 (.ofNat 0)),(.int .u8 (.ofNat 0)),(.int .u8 (.ofNat 0)),(.int .u8 (.ofNat 0)),(.int .u8 (.ofNat 0)),(.int .u8 (.ofNat 0)),(.int .u8 (.ofNat 0)),(.int .u8 (.ofNat 0))] [] 2 0 217 0 16 .none (.agg [(.int .u8 (.ofNat 0)),(.int .u8 (.ofNat 0)),(.int .u8 (.ofNat 0)),(.int .u8 (.ofNat 0)),(.int .u8 (.ofNat 0)),(.int .u8 (.ofNat 0)),(.int .u8 (.ofNat 0)),(.int .u8 (.ofNat 0)),(.int .u8 (.ofNat 0)),(.int .u8 (.ofNat 0)),(.int .u8 (.ofNat 0)),(.int .u8 (.ofNat 0)),(.int .u8 (.ofNat 0)),(.int .u8 (.ofNat 0)),(.int .u8 (.ofNat 0)),(.int .u8 (.ofNat 0)),(.int .u8 (.ofNat 0)),(.int .u8 (.ofNat 0)),(.int .u8 (.ofNat 0)),(.int .u8 (.ofNat 0)),(.int .u8 (.ofNat 0)),(.int .u8 (.ofNat 0)),(.int .u8 (.ofNat 0)),(.int .u8 (.ofNat 0)),(.int .u8 (.ofNat 0)),(.int .u8 (.ofNat 0)),(.int .u8 (.ofNat 0)),(.int .u8 (.ofNat 0)),(.int .u8 (.ofNat 0)),(.int .u8 (.ofNat 0)),(.int .u8 (.ofNat 0)),(.int .u8 (.ofNat 0))])),
none,
tL .func .fn,
tL .func .fn,
tL (.int .i64) (.int .i64),
none,
tL .func .fn,
tL .ptr .ptr,
tL .func .fn,
tL .func .fn,
none,
tL .func .fn,
tT [.str,.str,.oth] [(0,1,9),(1,1,9),(2,1,212)],
tT [.str,.str,.oth] [(0,1,9),(1,1,9),(2,1,212)],
tL .func .fn,
tL .func .fn,
tL .func .fn,
tL .ptr .ptr,
tL .ptr .ptr,
tE [.str] [(0,1,9)],
tE [.str] [(0,1,9)],
tL .func .fn,
some (.mk .array [(.int .u8),(.int .u8),(.int .u8),(.int .u8),(.int .u8),(.int .u8),(.int .u8),(.int .u8),(.int .u8),(.int .u8),(.int .u8),(.int .u8),(.int .u8),(.int .u8),(.int .u8),(.int .u8),(.int .u8),(.int .u8),(.int .u8),(.int .u8),(.int .u8),(.int .u8),(.int .u8),(.int .u8)] [(.int .u8 (.ofNat 0)),(.int .u8 (.ofNat 0)),(.int .u8 (.ofNat 0)),(.int .u8 (.ofNat 0)),(.int .u8 (.ofNat 0)),(.int .u8 (.ofNat 0)),(.int .u8 (.ofNat 0)),(.int .u8 (.ofNat 0)),(.int .u8 (.ofNat 0)),(.int .u8 (.ofNat 0)),(.int .u8 (.ofNat 0)),(.int .u8 (.ofNat 0)),(.int .u8 (.ofNat 0)),(.int .u8 (.ofNat 0)),(.int .u8 (.ofNat 0)),(.int .u8 (.ofNat 0)),(.int .u8 (.ofNat 0)),(.int .u8 (.ofNat 0)),(.int .u8 (.ofNat 0)),(.int .u8 (.ofNat 0)),(.int .u8 (.ofNat 0)),(.int .u8 (.ofNat 0)),(.int .u8 (.ofNat 0)),(.int .u8 (.ofNat 0))] [] 1 0 5 0 24 .none (.agg [(.int .u8 (.ofNat 0)),(.int .u8 (.ofNat 0)),(.int .u8 (.ofNat 0)),(.int .u8 (.ofNat 0)),(.int .u8 (.ofNat 0)),(.int .u8 (.ofNat 0)),(.int .u8 (.ofNat 0)),(.int .u8 (.ofNat 0)),(.int .u8 (.ofNat 0)),(.int .u8 (.ofNat 0)),(.int .u8 (.ofNat 0)),(.int .u8 (.ofNat 0)),(.int .u8 (.ofNat 0)),(.int .u8 (.ofNat 0)),(.int .u8 (.ofNat 0)),(.int .u8 (.ofNat 0)),(.int .u8 (.ofNat 0)),(.int .u8 (.ofNat 0)),(.int .u8 (.ofNat 0)),(.int .u8 (.ofNat 0)),(.int .u8 (.ofNat 0)),(.int .u8 (.ofNat 0)),(.int .u8 (.ofNat 0)),(.int .u8 (.ofNat 0))])),
tL .func .fn,
none,
tL .func .fn,
tL .func .fn,
some (.mk .array [(.int .u64),(.int .u64),(.int .u64),(.int .u64),(.int .u64),(.int .u64),(.int .u64),(.int .u64),(.int .u64),(.int .u64),(.int .u64),(.int .u64),(.int .u64),(.int .u64),(.int .u64),(.int .u64),(.int .u64),(.int .u64),(.int .u64),(.int .u64)] [(.int .u64 (.ofNat 0)),(.int .u64 (.ofNat 0)),(.int .u64 (.ofNat 0)),(.int .u64 (.ofNat 0)),(.int .u64 (.ofNat 0)),(.int .u64 (.ofNat 0)),(.int .u64 (.ofNat 0)),(.int .u64 (.ofNat 0)),(.int .u64 (.ofNat 0)),(.int .u64 (.ofNat 0)),(.int .u64 (.ofNat 0)),(.int .u64 (.ofNat 0)),(.int .u64 (.ofNat 0)),(.int .u64 (.ofNat 0)),(.int .u64 (.ofNat 0)),(.int .u64 (.ofNat 0)),(.int .u64 (.ofNat 0)),(.int .u64 (.ofNat 0)),(.int .u64 (.ofNat 0)),(.int .u64 (.ofNat 0))] [] 1 0 153 0 20 .none (.agg [(.int .u64 (.ofNat 0)),(.int .u64 (.ofNat 0)),(.int .u64 (.ofNat 0)),(.int .u64 (.ofNat 0)),(.int .u64 (.ofNat 0)),(.int .u64 (.ofNat 0)),(.int .u64 (.ofNat 0)),(.int .u64 (.ofNat 0)),(.int .u64 (.ofNat 0)),(.int .u64 (.ofNat 0)),(.int .u64 (.ofNat 0)),(.int .u64 (.ofNat 0)),(.int .u64 (.ofNat 0)),(.int .u64 (.ofNat 0)),(.int .u64 (.ofNat 0)),(.int .u64 (.ofNat 0)),(.int .u64 (.ofNat 0)),(.int .u64 (.ofNat 0)),(.int .u64 (.ofNat 0)),(.int .u64 (.ofNat 0))])),
none,
some (.mk .array [(.int .u8),(.int .u8),(.int .u8),(.int .u8),(.int .u8),(.int .u8),(.int .u8),(.int .u8),(.int .u8),(.int .u8),(.int .u8),(.int .u8),(.int .u8),(.int .u8),(.int .u8),(.int .u8),(.int .u8),(.int .u8),(.int .u8),(.int .u8),(.int .u8),(.int .u8),(.int .u8),(.int .u8),(.int .u8),(.int .u8),(.int .u8),(.int .u8),(.int .u8),(.int .u8),(.int .u8),(.int .u8)] [(.int .u8 (.ofNat 0)),(.int .u8 (.ofNat 0)),(.int .u8 (.ofNat 0)),(.int .u8 (.ofNat 0)),(.int .u8 (.ofNat 0)),(.int .u8 (.ofNat 0)),(.int .u8 (.ofNat 0)),(.int .u8 (.ofNat 0)),(.int .u8 (.ofNat 0)),(.int .u8 (.ofNat 0)),(.int .u8 (.ofNat 0)),(.int .u8 (.ofNat 0)),(.int .u8 (.ofNat 0)),(.int .u8 (.ofNat 0)),(.int .u8 (.ofNat 0)),(.int .u8 (.ofNat 0)),(.int .u8 (.ofNat 0)),(.int .u8 (.ofNat 0)),(.int .u8 (.ofNat 0)),(.int .u8 (.ofNat 0)),(.int .u8 (.ofNat 0)),(.int .u8 (.ofNat 0)),(.int .u8 (.ofNat 0)),(.int .u8 (.ofNat 0)),(.int .u8 (.ofNat 0)),(.int .u8 (.ofNat 0)),(.int .u8 (.ofNat 0)),(.int .u8 (.ofNat 0)),(.int .u8 (.ofNat 0)),(.int .u8 (.ofNat 0)),(.int .u8 (.ofNat 0)),(.int .u8 (.ofNat 0))] [] 1 0 5 0 32 .none (.agg [(.int .u8 (.ofNat 0)),(.int .u8 (.ofNat 0)),(.int .u8 (.ofNat 0)),(.int .u8 (.ofNat 0)),(.int .u8 (.ofNat 0)),(.int .u8 (.ofNat 0)),(.int .u8 (.ofNat 0)),(.int .u8 (.ofNat 0)),(.int .u8 (.ofNat 0)),(.int .u8 (.ofNat 0)),(.int .u8 (.ofNat 0)),(.int .u8 (.ofNat 0)),(.int .u8 (.ofNat 0)),(.int .u8 (.ofNat 0)),(.int .u8 (.ofNat 0)),(.int .u8 (.ofNat 0)),(.int .u8 (.ofNat 0)),(.int .u8 (.ofNat 0)),(.int .u8 (.ofNat 0)),(.int .u8 (.ofNat 0)),(.int .u8 (.ofNat 0)),(.int .u8 (.ofNat 0)),(.int .u8 (.ofNat 0)),(.int .u8 (.ofNat 0)),(.int .u8 (.ofNat 0)),(.int .u8 (.ofNat 0)),(.int .u8 (.ofNat 0)),(.int .u8 (.ofNat 0)),(.int .u8 (.ofNat 0)),(.int .u8 (.ofNat 0)),(.int .u8 (.ofNat 0)),(.int .u8 (.ofNat 0))])),
none,
tL .func .fn,
tT [.ptr,.ptr,.ptr,.str] [(0,1,17),(1,1,17),(2,1,17),(3,1,9)],
tT [.ptr,.ptr,.ptr,.str] [(0,1,17),(1,1,17),(2,1,17),(3,1,9)],
some (.mk .array [] [] [] 1 0 16 0 0 .none (.agg [])),
none,
none,
tL .func .fn,
tL (.int .u8) (.int .u8),
tL (.int .u8) (.int .u8),
tL .func .fn,
tL (.int .i32) (.int .i32),
tL (.int .i32) (.int .i32),
tT [.int .u64,.int .u64,.int .u32,.int .u8,.int .u8,.int .u8,.int .u8,.fn,.ptr,.int .i32,.int .i32] [(0,1,12),(1,1,12),(2,1,151),(3,1,256),(4,1,5),(5,1,5),(6,1,257),(7,1,258),(8,1,235),(9,1,259),(10,1,260)],
tT [.int .u64,.int .u64,.int .u32,.int .u8,.int .u8,.int .u8,.int .u8,.fn,.ptr,.int .i32,.int .i32] [(0,1,12),(1,1,12),(2,1,151),(3,1,256),(4,1,5),(5,1,5),(6,1,257),(7,1,258),(8,1,235),(9,1,259),(10,1,260)],
some (.mk .oth [.oth] [.nilp] [] 0 0 0 0 0 .none .nilp)]
abbrev tyU8 : Nat := 5
theorem types_ok : TabT Tryz.prog 0 types := ⟨by kernel_rfl,by kernel_rfl,by kernel_rfl,by kernel_rfl,by kernel_rfl,by kernel_rfl,by kernel_rfl,by kernel_rfl,by kernel_rfl,by kernel_rfl,by kernel_rfl,by kernel_rfl,by kernel_rfl,by kernel_rfl,by kernel_rfl,by kernel_rfl,by kernel_rfl,by kernel_rfl,by kernel_rfl,by kernel_rfl,by kernel_rfl,by kernel_rfl,by kernel_rfl,by kernel_rfl,by kernel_rfl,by kernel_rfl,by kernel_rfl,by kernel_rfl,by kernel_rfl,by kernel_rfl,by kernel_rfl,by kernel_rfl,by kernel_rfl,by kernel_rfl,by kernel_rfl,by kernel_rfl,by kernel_rfl,by kernel_rfl,by kernel_rfl,by kernel_rfl,by kernel_rfl,by kernel_rfl,by kernel_rfl,by kernel_rfl,by kernel_rfl,by kernel_rfl,by kernel_rfl,by kernel_rfl,by kernel_rfl,by kernel_rfl,by kernel_rfl,by kernel_rfl,by kernel_rfl,by kernel_rfl,by kernel_rfl,by kernel_rfl,by kernel_rfl,by kernel_rfl,by kernel_rfl,by kernel_rfl,by kernel_rfl,by kernel_rfl,by kernel_rfl,by kernel_rfl,by kernel_rfl,by kernel_rfl,by kernel_rfl,by kernel_rfl,by kernel_rfl,by kernel_rfl,by kernel_rfl,by kernel_rfl,by kernel_rfl,by kernel_rfl,by kernel_rfl,by kernel_rfl,by kernel_rfl,by kernel_rfl,by kernel_rfl,by kernel_rfl,by kernel_rfl,by kernel_rfl,by kernel_rfl,by kernel_rfl,by kernel_rfl,by kernel_rfl,by kernel_rfl,by kernel_rfl,by kernel_rfl,by kernel_rfl,by kernel_rfl,by kernel_rfl,by kernel_rfl,by kernel_rfl,by kernel_rfl,by kernel_rfl,by kernel_rfl,by kernel_rfl,by kernel_rfl,by kernel_rfl,by kernel_rfl,by kernel_rfl,by kernel_rfl,by kernel_rfl,by kernel_rfl,by kernel_rfl,by kernel_rfl,by kernel_rfl,by kernel_rfl,by kernel_rfl,by kernel_rfl,by kernel_rfl,by kernel_rfl,by kernel_rfl,by kernel_rfl,by kernel_rfl,by kernel_rfl,by kernel_rfl,by kernel_rfl,by kernel_rfl,by kernel_rfl,by kernel_rfl,by kernel_rfl,by kernel_rfl,by kernel_rfl,by kernel_rfl,by kernel_rfl,by kernel_rfl,by kernel_rfl,by kernel_rfl,by kernel_rfl,by kernel_rfl,by kernel_rfl,by kernel_rfl,by kernel_rfl,by kernel_rfl,by kernel_rfl,by kernel_rfl,by kernel_rfl,by kernel_rfl,by kernel_rfl,by kernel_rfl,by kernel_rfl,by kernel_rfl,by kernel_rfl,by kernel_rfl,by kernel_rfl,by kernel_rfl,by kernel_rfl,by kernel_rfl,by kernel_rfl,by kernel_rfl,by kernel_rfl,by kernel_rfl,by kernel_rfl,by kernel_rfl,by kernel_rfl,by kernel_rfl,by kernel_rfl,by kernel_rfl,by kernel_rfl,by kernel_rfl,by kernel_rfl,by kernel_rfl,by kernel_rfl,by kernel_rfl,by kernel_rfl,by kernel_rfl,by kernel_rfl,by kernel_rfl,by kernel_rfl,by kernel_rfl,by kernel_rfl,by kernel_rfl,by kernel_rfl,by kernel_rfl,by kernel_rfl,by kernel_rfl,by kernel_rfl,by kernel_rfl,by kernel_rfl,by kernel_rfl,by kernel_rfl,by kernel_rfl,by kernel_rfl,by kernel_rfl,by kernel_rfl,by kernel_rfl,by kernel_rfl,by kernel_rfl,by kernel_rfl,by kernel_rfl,by kernel_rfl,by kernel_rfl,by kernel_rfl,by kernel_rfl,by kernel_rfl,by kernel_rfl,by kernel_rfl,by kernel_rfl,by kernel_rfl,by kernel_rfl,by kernel_rfl,by kernel_rfl,by kernel_rfl,by kernel_rfl,by kernel_rfl,by kernel_rfl,by kernel_rfl,by kernel_rfl,by kernel_rfl,by kernel_rfl,by kernel_rfl,by kernel_rfl,by kernel_rfl,by kernel_rfl,by kernel_rfl,by kernel_rfl,by kernel_rfl,by kernel_rfl,by kernel_rfl,by kernel_rfl,by kernel_rfl,by kernel_rfl,by kernel_rfl,by kernel_rfl,by kernel_rfl,by kernel_rfl,by kernel_rfl,by kernel_rfl,by kernel_rfl,by kernel_rfl,by kernel_rfl,by kernel_rfl,by kernel_rfl,by kernel_rfl,by kernel_rfl,by kernel_rfl,by kernel_rfl,trivial⟩
def T : Nat → Option TI := tabT types
theorem T_ok : ∀ t ti,T t = some ti → tiOf Tryz.prog t = some ti := tabT_ok types_ok
end Go.Lm
namespace Go.Lm
section
variable {R : Type} {P : Program}
theorem LCalls.enter {args S : List LV} {c : Cx} {vs : List Value} {o : Ow} (hl : vs.length = args.length) (hr : ∀ i,i < args.length → Rep c (args.getD i .any) (vs.getD i undef) (o (.arg i))) (hsto : Sto c S o) (hsep : Sep o) (hlt : ∀ k g,g ∈ o k → g < c.w.heap.size) :
  RelO ⟨c,fun g => ∃ k,g ∈ o k⟩ ⟨[],[],S⟩ { tmps := #[],defers := [] } c args vs (fun k => match k with | .env _ => [] | k => o k) := by
 refine ⟨rfl,Nat.le_refl _,fun t ht => absurd ht (by simp),fun t d p h => by simp at h,⟨hsto.n,hsto.r,hsto.bd⟩,hr,hl,⟨fun k => ?_,fun k k' g hne hg hg' => ?_⟩,Ext.refl _ _,fun k g hg => ?_,rfl⟩
 ·cases k <;> first | exact List.nodup_nil | exact hsep.nd _
 ·cases k <;> cases k' <;> first | (cases hg; done) | (cases hg'; done) | exact hsep.dj _ _ g hne hg hg'
 ·cases k with
  | env t => cases hg
  | sto id => exact ⟨hlt _ g hg,.inl ⟨_,hg⟩⟩
  | arg i => exact ⟨hlt _ g hg,.inl ⟨_,hg⟩⟩
theorem LCalls.leave {S' : List LV} {c c' : Cx} {o : Ow} {a : Act} {q : Q} {r : LV} {v : Value} {e : Ending} {w' : World} (hq : q.S = S') (he : e = .returned v) (hw : c'.w = w') (hr : Rep c' r v []) (h : Rel ⟨c,fun g => ∃ k,g ∈ o k⟩ q a c') :
  ∃ c' v o',e = .returned v ∧ c'.w = w' ∧ Ext c c' (fun g => ∃ k,g ∈ o k) ∧ Rep c' r v (o' (.arg 0)) ∧ Sto c' S' o' ∧ Sep o' ∧
   (∀ k g,g ∈ o' k → g < w'.heap.size ∧ ((∃ k',g ∈ o k') ∨ c.w.heap.size ≤ g)) ∧ ∀ t,o' (.env t) = [] := by
 obtain ⟨o2,h⟩ := h
 subst hq; subst hw
 refine ⟨c',v,fun k => match k with | .sto id => o2 (.sto id) | _ => [],he,rfl,h.ext,hr,⟨h.sto.n,h.sto.r,h.sto.bd⟩,⟨fun k => ?_,fun k k' g hne hg hg' => ?_⟩,fun k g hg => ?_,fun t => rfl⟩
 ·cases k <;> first | exact List.nodup_nil | exact h.sep.nd _
 ·cases k <;> cases k' <;> first | (cases hg; done) | (cases hg'; done) | exact h.sep.dj _ _ g hne hg hg'
 ·cases k with
  | sto id => exact h.own _ g hg
  | env t => cases hg
  | arg i => cases hg
theorem rep_ptr {c : Cx} {id p : Nat} {v : Value} {O : List Nat} (h : Rep c (.ptr id p) v O) : id < c.n ∧ v = .pointer (some ⟨c.ι id,p,none⟩) ∧ O = [] := by
 cases h with
 | ptr _ _ h => exact ⟨h,rfl,rfl⟩
theorem hand_okS {f : FuncId} (hen : Enters P f) {ps rs : Mk} {g : List LV → ps.ty → Option (rs.ty × List LV)} {fn : ps.ty → List LV → (rs.ty → List LV → Option R) → Option R}
  (hf : ∀ S x K,fn x S K = match g S x with | some r => K r.1 r.2 | none => none) (hv : ∀ x S r S',g S x = some (r,S') → LCalls P f (ps.enc x) S (resE rs r) S') :
  HSound P f (hT (R := R) ps fun x S K => fn x S fun r S => K (resE rs r) S) := by
 intro args S K r h
 unfold hT at h
 split at h
 ·split at h
  ·rename_i x hx
   simp only [hf] at h
   split at h
   ·rename_i y hy
    refine ⟨hen,_,_,?_,h⟩
    have := hv x S y.1 y.2 hy
    rw [← Mk.dec_enc ps _ x hx] at this
    exact this.co
   ·cases h
  ·cases h
 ·cases h
def strB : List LV → Option (List UInt8)
 | [] => some []
 | .int .u8 n :: xs => (match decide (n = ((UInt8.ofNat n.toNat).toNat : Int)) with
  | true => (match strB xs with | some l => some (UInt8.ofNat n.toNat :: l) | none => none)
  | false => none)
 | _ :: _ => none
theorem strB_some : ∀ (xs : List LV) (l : List UInt8),strB xs = some l → xs = l.map fun b => LV.int .u8 (b.toNat : Int)
 | [],l,h => by cases h; rfl
 | x :: xs,l,h => by
  unfold strB at h
  split at h
  ·rename_i h0; cases h0
  ·rename_i n xs' h0
   cases h0
   split at h
   ·rename_i hn
    split at h
    ·rename_i l' hl
     cases h
     rw [strB_some _ _ hl,List.map_cons,← of_decide_eq_true hn]
    ·cases h
   ·cases h
  ·cases h
theorem LCalls.bytes {f : FuncId} {S : List LV} {id ty e : Nat} {x0 : LV} {xs : List LV} {l : List UInt8} (hS : S.getD id .any = .obj ty [x0,.own e 1 xs]) (hl : strB xs = some l) (h0 : l ≠ [])
  (h : ∀ (b g cap : Nat) (cur : Array Value) (p : Value) (w : World),w.heap[b]? = some (.cells #[p,.slice (some ⟨g,0,none⟩) l.length cap] ty (0,0)) → w.heap[g]? = some (.cells cur e (0,0)) → l.length ≤ cap → cap ≤ 9223372036854775807 → cur.size = cap →
   (∀ j x,l[j]? = some x → w.cell? ⟨g,j,none⟩ = some (.int .u8 x.toNat)) → Calls P f #[.pointer (some ⟨b,0,none⟩)] w fun en w' => en = .returned (.string ⟨l.toArray⟩) ∧ w' = w.drew.freeze ⟨g,0,none⟩ l.length) :
  LCalls P f [.ptr id 0] S (.str ⟨l.toArray⟩) (S.set id .any) := by
 intro c vs o hvl hvr hsto hsep hlt
 have hr := LCalls.enter hvl hvr hsto hsep hlt
 have r0 := hvr 0 (by simp)
 simp only [List.getD_cons_zero] at r0
 obtain ⟨hid,hv,-⟩ := rep_ptr r0
 obtain rfl : vs = [.pointer (some ⟨c.ι id,0,none⟩)] := by
  cases vs with
  | nil => simp at hvl
  | cons v vs =>
   cases vs with
   | nil => simp only [List.getD_cons_zero] at hv; rw [hv]
   | cons => simp at hvl
 obtain ⟨hidS,cur,os,hO,_,hh,hI,ho1,hrep,hs⟩ := hr.obj (.inl rfl) hS
 replace hs := hs rfl
 obtain rfl := strB_some _ _ hl
 have hown := hrep 1 (by simp)
 have e1 : ([x0,LV.own e 1 (l.map fun b => LV.int .u8 (b.toNat : Int))] : List LV).getD 1 .any = .own e 1 (l.map fun b => LV.int .u8 (b.toNat : Int)) := rfl
 rw [e1] at hown
 have hlen : 0 < l.length := by
  cases l with
  | nil => exact absurd rfl h0
  | cons => simp
 generalize hz : cur.getD 1 undef = z at hown
 generalize hO1 : os 1 = O1 at hown
 generalize hxs : (l.map fun b => LV.int .u8 (b.toNat : Int)) = xs at hown
 cases hown with
 | own0 =>
  have : l.length = 0 := by have := congrArg List.length hxs; simpa using this
  omega
 | own _ _ g cap _ cur2 hcap hmax hh2 hs2 hI2 h12 hr2 =>
  have hxl : xs.length = l.length := by rw [← hxs,List.length_map]
  rw [hxl] at hz hcap
  have hcells : ∀ j x,l[j]? = some x → c.w.cell? ⟨g,j,none⟩ = some (.int .u8 x.toNat) := fun j x hj => by
   have hj' : j < l.length := (List.getElem?_eq_some_iff.1 hj).1
   have h3 := hr2 j (by omega)
   rw [Nat.div_one,Nat.mod_one] at h3
   have h4 : xs.getD j .any = .int .u8 (x.toNat : Int) := by
    rw [← hxs]; simp [List.getD_eq_getElem?_getD,hj]
   rw [h4] at h3
   have h5 := rep_int (h3 : Rep c (.int .u8 (x.toNat : Int)) _ _)
   have h6 : j < cur2.size := by omega
   simp only [World.cell?,hh2]
   simp [Array.getD_eq_getD_getElem?,h6] at h5
   simp [h6,h5]
  have hcur : cur = #[cur.getD 0 undef,.slice (some ⟨g,0,none⟩) l.length cap] := by
   have hs' : cur.size = 2 := hs
   apply Array.ext
   ·simp [hs']
   ·intro j h1 h2
    simp at h2
    rcases j with _ | _ | j
    ·simp [Array.getD_eq_getD_getElem?,h1]
    ·simp [Array.getD_eq_getD_getElem?,h1] at hz; simpa using hz
    ·omega
  rw [hcur] at hh
  refine (h (c.ι id) g cap cur2 _ c.w hh hh2 hcap hmax (by omega) hcells).mono ?_
  rintro en w' ⟨he,rfl⟩
  have hgo : g ∈ o (.sto id) := by
   have hO' : o (.sto id) = c.ι id :: flatO [x0,LV.own e 1 (l.map fun b => LV.int .u8 (b.toNat : Int))].length os := hO
   rw [hO']
   refine List.mem_cons_of_mem _ (flatO_mem.2 ⟨1,by simp,?_⟩)
   rw [hO1]; simp
  have hn0 : l.length ≠ 0 := by omega
  have hblk : ∀ b,b ≠ g → (c.w.drew.freeze ⟨g,0,none⟩ l.length).heap[b]? = c.w.heap[b]? := fun b hb => by
   unfold World.freeze
   rw [if_neg hn0]
   show (c.w.heap.modify g _)[b]? = _
   rw [Array.getElem?_modify,if_neg (Ne.symm hb)]
  have hsz : (c.w.drew.freeze ⟨g,0,none⟩ l.length).heap.size = c.w.heap.size := by
   unfold World.freeze
   rw [if_neg hn0]
   show (c.w.heap.modify g _).size = _
   simp
  have hfz : (c.w.drew.freeze ⟨g,0,none⟩ l.length).heap[g]? = some (.cells cur2 e (0,0 + l.length)) := by
   unfold World.freeze
   rw [if_neg hn0]
   show (c.w.heap.modify g _)[g]? = _
   rw [Array.getElem?_modify,if_pos rfl,hh2]
   simp
  have hcell : ∀ b p,(c.w.drew.freeze ⟨g,0,none⟩ l.length).cell? ⟨b,p,none⟩ = c.w.cell? ⟨b,p,none⟩ := fun b p => by
   by_cases hb : b = g
   ·subst hb
    simp only [World.cell?,hfz,hh2]
   ·exact World.cell?_of_block (w := c.w) (hblk b hb)
  let c' : Cx := { c with w := c.w.drew.freeze ⟨g,0,none⟩ l.length }
  have hext : Ext c c' (fun b => b = g) := ⟨Nat.le_refl _,fun _ _ => rfl,fun _ _ h => h,fun b p _ => hcell b p,by rw [hsz]; exact Nat.le_refl _,fun b _ hb => hblk b hb,fun _ _ _ _ h => h,(fun b _ _ _ hb h => by subst hb; rw [hh2] at h; cases h; exact ⟨_,_,hfz,rfl⟩),
   by show (World.freeze _ _ _).os = _; unfold World.freeze; rw [if_neg hn0]; rfl,by show (World.freeze _ _ _).tape = _; unfold World.freeze; rw [if_neg hn0]; rfl,by show (World.freeze _ _ _).output = _; unfold World.freeze; rw [if_neg hn0]; rfl⟩
  have hext' : Ext c c' (fun b => ∃ k,b ∈ o k) := hext.mono (fun b hb => ⟨_,hb ▸ hgo⟩)
  refine ⟨c',_,fun k => match k with | .sto id' => if id' = id then [] else o (.sto id') | _ => [],he,rfl,hext',.str _,⟨by simpa using hsto.n,fun id' hid' => ?_,fun b p hb => by rw [hsz]; exact hsto.bd b p hb⟩,⟨fun k => ?_,fun k k' g' hne hg hg' => ?_⟩,fun k g' hg => ?_,fun t => rfl⟩
  ·have hid'' : id' < S.length := by simpa using hid'
   by_cases e1 : id' = id
   ·subst e1
    rw [getD_set_self _ _ _ hid'']
    show Rep c' .any _ (if id' = id' then [] else o (.sto id'))
    rw [if_pos rfl]
    exact .any _
   ·rw [getD_set_other _ _ e1]
    show Rep c' _ _ (if id' = id then [] else o (.sto id'))
    rw [if_neg e1]
    exact (hsto.r id' hid'').ext hext (fun g' hg' hm => hsep.dj _ _ g' (fun e => e1 (by cases e; rfl)) hg' (hm ▸ hgo))
  ·cases k with
   | env t => exact List.nodup_nil
   | arg i => exact List.nodup_nil
   | sto id' => simp only; split; exact List.nodup_nil; exact hsep.nd _
  ·cases k with
   | env t => cases hg
   | arg i => cases hg
   | sto i1 =>
    cases k' with
    | env t => cases hg'
    | arg i => cases hg'
    | sto i2 =>
     simp only at hg hg'
     split at hg
     ·cases hg
     ·split at hg'
      ·cases hg'
      ·exact hsep.dj _ _ g' hne hg hg'
  ·cases k with
   | env t => cases hg
   | arg i => cases hg
   | sto i1 =>
    simp only at hg
    split at hg
    ·cases hg
    ·exact ⟨by rw [hsz]; exact hlt _ _ hg,.inl ⟨_,hg⟩⟩
def HasGlob (S : List LV) (k : Nat) (a : Array Value) : Prop := ∃ id e fz,S.getD id .any = .glob k (.cells a e fz)
theorem HasGlob.app {S : List LV} {k : Nat} {a : Array Value} (h : HasGlob S k a) (T : List LV) : HasGlob (S ++ T) k a := by
 obtain ⟨id,e,fz,h⟩ := h
 refine ⟨id,e,fz,?_⟩
 rcases Nat.lt_or_ge id S.length with h1 | h1
 ·rw [getD_app_lt _ _ _ _ h1]; exact h
 ·rw [List.getD_eq_getElem?_getD,List.getElem?_eq_none h1] at h; cases h
theorem hasGlob_var {S : List LV} {k : Nat} {a : Array Value} {f : FuncId} {args : List LV} {vals : List Value} {r : LV} {v : Value} (h : HasGlob S k a) (ha : rigids args = some vals) (hr : rigid r = some v)
  (hc : ∀ w e fz,w.heap[k]? = some (.cells a e fz) → Calls P f vals.toArray w fun e w' => e = .returned v ∧ RowKit.Below w.heap.size w w') : LCalls P f args S r S := by
 obtain ⟨id,e,fz,h⟩ := h
 exact LCalls.belowG h ha hr fun w hh => hc w e fz hh
theorem LCalls.belowX {f : FuncId} {args S : List LV} {vals : List Value} {r : LV} {I : World → Prop} (ha : rigids args = some vals)
  (hI : ∀ c : Cx,(∀ id,id < S.length → ∃ O,Rep c (S.getD id .any) (oval (S.getD id .any) (c.ι id)) O) → I c.w)
  (h : ∀ w,I w → Calls P f vals.toArray w fun e w' => (∃ v,e = .returned v ∧ ∀ c : Cx,Rep c r v []) ∧ RowKit.Below w.heap.size w w') : LCalls P f args S r S := by
 refine LCalls.ofS fun c vs o hl hrep hbd hsto => ?_
 rw [rigids_rep ha hl hrep]
 refine (h c.w (hI c hsto)).mono ?_
 rintro e w' ⟨⟨v,he,hr⟩,hb⟩
 exact ⟨{ c with w := w' },v,[],he,rfl,⟨Nat.le_refl _,fun _ _ => rfl,fun _ _ h => h,fun b o h => World.cell?_of_block (w := c.w) (hb.block b (hbd b o h)),hb.size,fun b hlt _ => hb.block b hlt,fun _ _ _ _ h => h,(fun _ _ _ _ h _ => False.elim h),hb.os,hb.tape,hb.output⟩,
  hr _,List.nodup_nil,by simp,rfl,fun b p h => Nat.lt_of_lt_of_le (hbd b p h) hb.size⟩
theorem glob_heap {S : List LV} {c : Cx} {id k : Nat} {ob : Obj} (hS : S.getD id .any = .glob k ob) (hsto : ∀ id,id < S.length → ∃ O,Rep c (S.getD id .any) (oval (S.getD id .any) (c.ι id)) O) : c.w.heap[k]? = some ob := by
 have hid : id < S.length := by
  rcases Nat.lt_or_ge id S.length with h1 | h1
  ·exact h1
  ·rw [List.getD_eq_getElem?_getD,List.getElem?_eq_none h1] at hS; cases hS
 obtain ⟨O,h2⟩ := hsto id hid
 rw [hS] at h2
 generalize oval (.glob k ob) (c.ι id) = z at h2
 cases h2 with
 | glob _ _ hh => exact hh
def HasErr (S : List LV) (k : Nat) : Prop := ∃ id e fz tp p,S.getD id .any = .glob k (.cells #[.iface tp p] e fz)
theorem HasErr.app {S : List LV} {k : Nat} (h : HasErr S k) (T : List LV) : HasErr (S ++ T) k := by
 obtain ⟨id,e,fz,tp,p,h⟩ := h
 refine ⟨id,e,fz,tp,p,?_⟩
 rcases Nat.lt_or_ge id S.length with h1 | h1
 ·rw [getD_app_lt _ _ _ _ h1]; exact h
 ·rw [List.getD_eq_getElem?_getD,List.getElem?_eq_none h1] at h; cases h
def predA (hd : Hd Bool) (x : Nat) : Option Bool := hd [.int .i32 (x : Int)] [] fun v _ => match v with | .bool b => some b | _ => none
theorem pred_of {g : FuncId} {hd : Hd Bool} (hs : HSound P g hd) {x : Nat} {b : Bool} (h : predA hd x = some b) (W : World) : Calls P g #[.int .i32 (x : Int)] W fun e w' => e = .returned (.bool b) ∧ RowKit.Below W.heap.size W w' := by
 obtain ⟨_,v,S',hL,hK⟩ := hs _ _ _ _ h
 obtain rfl : v = .bool b := by
  split at hK
  ·cases hK; rfl
  ·cases hK
 refine (hL { ι := fun _ => 0,n := 0,I := fun _ _ => False,w := W } [.int .i32 (x : Int)] (fun _ => []) rfl (fun i hi => ?_) ⟨rfl,fun id hid => absurd hid (Nat.not_lt_zero _),fun _ _ h => h.elim⟩ ⟨fun _ => List.nodup_nil,fun _ _ _ _ h => by cases h⟩ (fun _ _ h => by cases h)).mono ?_
 ·have : i = 0 := by simpa using hi
  subst this; exact .int _ _
 ·rintro e w' ⟨c',u,o',rfl,rfl,hext,hrep,_,_,_,_⟩
  have hu := rep_bool hrep
  subst hu
  exact ⟨rfl,⟨hext.os,hext.tape,hext.output,hext.size,fun b hb => hext.block b hb (fun ⟨k,hk⟩ => by cases hk)⟩⟩
end
end Go.Lm
namespace Go.Proofs
open Go.Shelf
def Tryz.lays160_ren : Go.Shelf.Ren := ⟨fun | 160 => 109 | 232 => 162 | 231 => 161 | 227 => 163 | 234 => 165 | 233 => 164 | 236 => 167 | 235 => 166 | 228 => 198 | 271 => 200 | 151 => 199 | 197 => 182 | 120 => 213 | 152 => 212 | 260 => 205 | 137 => 134 | 119 => 216 | 224 => 207 | 225 => 206 | 217 => 185 | 266 => 209 | n => n,fun | 9 => 9 | 4 => 4 | 3 => 3 | 5 => 5 | 117 => 175 | 116 => 174 | 0 => 0 | 124 => 178 | 21 => 21 | 105 => 193 | 46 => 129 | 119 => 215 | 139 => 218 | 138 => 217 | n => n,fun | 3 => 1 | 4 => 2 | n => n⟩
theorem Tryz.lays160 : Go.Proofs.Lays.n160 Tryz.prog Tryz.lays160_ren := {
 mixed := by kernel_rfl
 f119 := Tryz.func216.trans (congrArg some (by kernel_rfl))
 f120 := Tryz.func213.trans (congrArg some (by kernel_rfl))
 f137 := Tryz.func134.trans (congrArg some (by kernel_rfl))
 f151 := Tryz.func199.trans (congrArg some (by kernel_rfl))
 f152 := Tryz.func212.trans (congrArg some (by kernel_rfl))
 f160 := Tryz.func109.trans (congrArg some (by kernel_rfl))
 f197 := Tryz.func182.trans (congrArg some (by kernel_rfl))
 f217 := Tryz.func185.trans (congrArg some (by kernel_rfl))
 f224 := Tryz.func207.trans (congrArg some (by kernel_rfl))
 f225 := Tryz.func206.trans (congrArg some (by kernel_rfl))
 f227 := Tryz.func163.trans (congrArg some (by kernel_rfl))
 f228 := Tryz.func198.trans (congrArg some (by kernel_rfl))
 f231 := Tryz.func161.trans (congrArg some (by kernel_rfl))
 f232 := Tryz.func162.trans (congrArg some (by kernel_rfl))
 f233 := Tryz.func164.trans (congrArg some (by kernel_rfl))
 f234 := Tryz.func165.trans (congrArg some (by kernel_rfl))
 f235 := Tryz.func166.trans (congrArg some (by kernel_rfl))
 f236 := Tryz.func167.trans (congrArg some (by kernel_rfl))
 f260 := Tryz.func205.trans (congrArg some (by kernel_rfl))
 f266 := Tryz.func209.trans (congrArg some (by kernel_rfl))
 f271 := Tryz.func200.trans (congrArg some (by kernel_rfl))
 t0 := Tryz.underlying0
 a0 := Tryz.isAgg0
 z0 := Tryz.sizeOf0
 v0 := Tryz.zeroValue0
 t3 := Tryz.underlying3
 a3 := Tryz.isAgg3
 z3 := Tryz.sizeOf3
 v3 := Tryz.zeroValue3
 t4 := Tryz.underlying4
 a4 := Tryz.isAgg4
 z4 := Tryz.sizeOf4
 v4 := Tryz.zeroValue4
 t5 := Tryz.underlying5
 a5 := Tryz.isAgg5
 z5 := Tryz.sizeOf5
 v5 := Tryz.zeroValue5
 t9 := Tryz.underlying9
 a9 := Tryz.isAgg9
 z9 := Tryz.sizeOf9
 v9 := Tryz.zeroValue9
 t21 := Tryz.underlying21
 a21 := Tryz.isAgg21
 z21 := Tryz.sizeOf21
 v21 := Tryz.zeroValue21
 t46 := Tryz.underlying129
 a46 := Tryz.isAgg129
 z46 := Tryz.sizeOf129
 v46 := Tryz.zeroValue129
 t105 := Tryz.underlying193
 a105 := Tryz.isAgg193
 z105 := Tryz.sizeOf193
 v105 := Tryz.zeroValue193
 t116 := Tryz.underlying174
 a116 := Tryz.isAgg174
 z116 := Tryz.sizeOf174
 t117 := Tryz.underlying175
 a117 := Tryz.isAgg175
 z117 := Tryz.sizeOf175
 v117 := Tryz.zeroValue175
 t119 := Tryz.underlying215
 a119 := Tryz.isAgg215
 z119 := Tryz.sizeOf215
 t124 := Tryz.underlying178
 a124 := Tryz.isAgg178
 z124 := Tryz.sizeOf178
 v124 := Tryz.zeroValue178
 t138 := Tryz.underlying217
 a138 := Tryz.isAgg217
 z138 := Tryz.sizeOf217
 v138 := Tryz.zeroValue217
 t139 := Tryz.underlying218
 a139 := Tryz.isAgg218
 z139 := Tryz.sizeOf218
 v139 := Tryz.zeroValue218
 g3 := by kernel_rfl
 g4 := by kernel_rfl }
def Tryz.lays213_ren : Go.Shelf.Ren := ⟨fun | 213 => 92 | 265 => 125 | n => n,fun | 9 => 9 | 3 => 3 | n => n,fun | n => n⟩
theorem Tryz.lays213 : Go.Proofs.Lays.n213 Tryz.prog Tryz.lays213_ren := {
 mixed := by kernel_rfl
 f213 := Tryz.func92.trans (congrArg some (by kernel_rfl))
 f265 := Tryz.func125.trans (congrArg some (by kernel_rfl))
 t3 := Tryz.underlying3
 a3 := Tryz.isAgg3
 z3 := Tryz.sizeOf3
 v3 := Tryz.zeroValue3
 t9 := Tryz.underlying9
 a9 := Tryz.isAgg9
 z9 := Tryz.sizeOf9
 v9 := Tryz.zeroValue9 }
open Go.RowKit in
theorem Tryz.bytealg_CompareString (a b : ByteArray) (w : World) :
  Calls Tryz.prog 92 #[.string a,.string b] w fun e w' => e = .returned (.int .i64 (Lib.compareBytes a.data.toList b.data.toList)) ∧ w' = w := Any.bytealg_CompareString Tryz.lays213 a b w
def Tryz.laysM171_ren : Go.Shelf.Ren := ⟨fun | 171 => 227 | 243 => 230 | 246 => 231 | 283 => 232 | 284 => 233 | 285 => 234 | 286 => 235 | 129 => 124 | 317 => 236 | 318 => 237 | 319 => 238 | 320 => 239 | 337 => 240 | 338 => 241 | n => n,fun | 3 => 3 | 9 => 9 | 2 => 2 | 4 => 4 | 171 => 240 | 0 => 0 | 53 => 153 | 37 => 180 | 5 => 5 | 173 => 242 | 212 => 245 | 51 => 151 | 20 => 20 | 213 => 246 | 46 => 129 | 232 => 247 | 233 => 248 | n => n,fun | 17 => 5 | 18 => 6 | 19 => 7 | n => n⟩
theorem Tryz.laysM171 : Go.Proofs.LaysM.n171 Tryz.prog Tryz.laysM171_ren := {
 mixed := by kernel_rfl
 f129 := Tryz.func124.trans (congrArg some (by kernel_rfl))
 f171 := Tryz.func227.trans (congrArg some (by kernel_rfl))
 f243 := Tryz.func230.trans (congrArg some (by kernel_rfl))
 f246 := Tryz.func231.trans (congrArg some (by kernel_rfl))
 f283 := Tryz.func232.trans (congrArg some (by kernel_rfl))
 f284 := Tryz.func233.trans (congrArg some (by kernel_rfl))
 f285 := Tryz.func234.trans (congrArg some (by kernel_rfl))
 f286 := Tryz.func235.trans (congrArg some (by kernel_rfl))
 f317 := Tryz.func236.trans (congrArg some (by kernel_rfl))
 f318 := Tryz.func237.trans (congrArg some (by kernel_rfl))
 f319 := Tryz.func238.trans (congrArg some (by kernel_rfl))
 f320 := Tryz.func239.trans (congrArg some (by kernel_rfl))
 f337 := Tryz.func240.trans (congrArg some (by kernel_rfl))
 f338 := Tryz.func241.trans (congrArg some (by kernel_rfl))
 t0 := Tryz.underlying0
 a0 := Tryz.isAgg0
 z0 := Tryz.sizeOf0
 v0 := Tryz.zeroValue0
 t2 := Tryz.underlying2
 a2 := Tryz.isAgg2
 z2 := Tryz.sizeOf2
 v2 := Tryz.zeroValue2
 t3 := Tryz.underlying3
 a3 := Tryz.isAgg3
 z3 := Tryz.sizeOf3
 v3 := Tryz.zeroValue3
 t4 := Tryz.underlying4
 a4 := Tryz.isAgg4
 z4 := Tryz.sizeOf4
 v4 := Tryz.zeroValue4
 t5 := Tryz.underlying5
 a5 := Tryz.isAgg5
 z5 := Tryz.sizeOf5
 v5 := Tryz.zeroValue5
 t9 := Tryz.underlying9
 a9 := Tryz.isAgg9
 z9 := Tryz.sizeOf9
 v9 := Tryz.zeroValue9
 t20 := Tryz.underlying20
 a20 := Tryz.isAgg20
 z20 := Tryz.sizeOf20
 v20 := Tryz.zeroValue20
 t37 := Tryz.underlying180
 a37 := Tryz.isAgg180
 z37 := Tryz.sizeOf180
 v37 := Tryz.zeroValue180
 t46 := Tryz.underlying129
 a46 := Tryz.isAgg129
 z46 := Tryz.sizeOf129
 v46 := Tryz.zeroValue129
 t51 := Tryz.underlying151
 a51 := Tryz.isAgg151
 z51 := Tryz.sizeOf151
 v51 := Tryz.zeroValue151
 t53 := Tryz.underlying153
 a53 := Tryz.isAgg153
 z53 := Tryz.sizeOf153
 v53 := Tryz.zeroValue153
 t171 := Tryz.underlying240
 a171 := Tryz.isAgg240
 z171 := Tryz.sizeOf240
 v171 := Tryz.zeroValue240
 t173 := Tryz.underlying242
 a173 := Tryz.isAgg242
 z173 := Tryz.sizeOf242
 v173 := Tryz.zeroValue242
 t212 := Tryz.underlying245
 a212 := Tryz.isAgg245
 z212 := Tryz.sizeOf245
 v212 := Tryz.zeroValue245
 t213 := Tryz.underlying246
 a213 := Tryz.isAgg246
 z213 := Tryz.sizeOf246
 t232 := Tryz.underlying247
 a232 := Tryz.isAgg247
 z232 := Tryz.sizeOf247
 v232 := Tryz.zeroValue247
 t233 := Tryz.underlying248
 a233 := Tryz.isAgg248
 z233 := Tryz.sizeOf248
 v233 := Tryz.zeroValue248
 g17 := by kernel_rfl
 g18 := by kernel_rfl
 g19 := by kernel_rfl
 i0 := by kernel_rfl
 i2 := by kernel_rfl
 i3 := by kernel_rfl
 i4 := by kernel_rfl
 i5 := by kernel_rfl
 i9 := by kernel_rfl
 i20 := by kernel_rfl
 i37 := by kernel_rfl
 i46 := by kernel_rfl
 i51 := by kernel_rfl
 i53 := by kernel_rfl
 i171 := by kernel_rfl
 i173 := by kernel_rfl
 i212 := by kernel_rfl
 i232 := by kernel_rfl
 i233 := by kernel_rfl
 m17 := by kernel_rfl
 m18 := by kernel_rfl
 m19 := by kernel_rfl }
open Go.RowKit Go.Sort Go.Lib in
theorem Tryz.strconv_Itoa (n : Int) (h0 : -9223372036854775808 ≤ n) (h1 : n ≤ 9223372036854775807) (w : World) (htab : Lib.TabIs Tryz.prog w "internal/strconv.uint64pow10" .u64 Lib.pow10Tab) :
  Calls Tryz.prog 227 #[.int .i64 n] w fun e w' => e = .returned (.string ⟨(Lib.itoa n).toArray⟩) ∧ ∃ k os,w' = grow (w.drewN k) os := Any.strconv_Itoa Tryz.laysM171 n h0 h1 w htab
def Tryz.laysC172_ren : Go.Shelf.Ren := ⟨fun | 172 => 214 | 244 => 217 | 245 => 218 | 247 => 219 | 279 => 220 | 280 => 221 | 281 => 222 | 282 => 223 | 287 => 224 | 316 => 225 | 171 => 227 | 205 => 226 | 321 => 228 | 322 => 229 | 243 => 230 | 246 => 231 | 283 => 232 | 284 => 233 | 285 => 234 | 286 => 235 | 129 => 124 | 317 => 236 | 318 => 237 | 319 => 238 | 320 => 239 | 337 => 240 | 338 => 241 | n => n,fun | 9 => 9 | 3 => 3 | 75 => 212 | 76 => 213 | 4 => 4 | 5 => 5 | 167 => 222 | 37 => 180 | 0 => 0 | 85 => 223 | 2 => 2 | 168 => 225 | 53 => 153 | 175 => 228 | 46 => 129 | 210 => 231 | 127 => 235 | 145 => 238 | 143 => 236 | 21 => 21 | 171 => 240 | 173 => 242 | 212 => 245 | 51 => 151 | 20 => 20 | 213 => 246 | 232 => 247 | 233 => 248 | 80 => 249 | n => n,fun | 15 => 3 | 16 => 4 | 17 => 5 | 18 => 6 | 19 => 7 | n => n⟩
theorem Tryz.laysC172 : Go.Proofs.LaysC.n172 Tryz.prog Tryz.laysC172_ren := {
 mixed := by kernel_rfl
 f129 := Tryz.func124.trans (congrArg some (by kernel_rfl))
 f171 := Tryz.func227.trans (congrArg some (by kernel_rfl))
 f172 := Tryz.func214.trans (congrArg some (by kernel_rfl))
 f205 := Tryz.func226.trans (congrArg some (by kernel_rfl))
 f243 := Tryz.func230.trans (congrArg some (by kernel_rfl))
 f244 := Tryz.func217.trans (congrArg some (by kernel_rfl))
 f245 := Tryz.func218.trans (congrArg some (by kernel_rfl))
 f246 := Tryz.func231.trans (congrArg some (by kernel_rfl))
 f247 := Tryz.func219.trans (congrArg some (by kernel_rfl))
 f279 := Tryz.func220.trans (congrArg some (by kernel_rfl))
 f280 := Tryz.func221.trans (congrArg some (by kernel_rfl))
 f281 := Tryz.func222.trans (congrArg some (by kernel_rfl))
 f282 := Tryz.func223.trans (congrArg some (by kernel_rfl))
 f283 := Tryz.func232.trans (congrArg some (by kernel_rfl))
 f284 := Tryz.func233.trans (congrArg some (by kernel_rfl))
 f285 := Tryz.func234.trans (congrArg some (by kernel_rfl))
 f286 := Tryz.func235.trans (congrArg some (by kernel_rfl))
 f287 := Tryz.func224.trans (congrArg some (by kernel_rfl))
 f316 := Tryz.func225.trans (congrArg some (by kernel_rfl))
 f317 := Tryz.func236.trans (congrArg some (by kernel_rfl))
 f318 := Tryz.func237.trans (congrArg some (by kernel_rfl))
 f319 := Tryz.func238.trans (congrArg some (by kernel_rfl))
 f320 := Tryz.func239.trans (congrArg some (by kernel_rfl))
 f321 := Tryz.func228.trans (congrArg some (by kernel_rfl))
 f322 := Tryz.func229.trans (congrArg some (by kernel_rfl))
 f337 := Tryz.func240.trans (congrArg some (by kernel_rfl))
 f338 := Tryz.func241.trans (congrArg some (by kernel_rfl))
 t0 := Tryz.underlying0
 a0 := Tryz.isAgg0
 z0 := Tryz.sizeOf0
 v0 := Tryz.zeroValue0
 t2 := Tryz.underlying2
 a2 := Tryz.isAgg2
 z2 := Tryz.sizeOf2
 v2 := Tryz.zeroValue2
 t3 := Tryz.underlying3
 a3 := Tryz.isAgg3
 z3 := Tryz.sizeOf3
 v3 := Tryz.zeroValue3
 t4 := Tryz.underlying4
 a4 := Tryz.isAgg4
 z4 := Tryz.sizeOf4
 v4 := Tryz.zeroValue4
 t5 := Tryz.underlying5
 a5 := Tryz.isAgg5
 z5 := Tryz.sizeOf5
 v5 := Tryz.zeroValue5
 t9 := Tryz.underlying9
 a9 := Tryz.isAgg9
 z9 := Tryz.sizeOf9
 v9 := Tryz.zeroValue9
 t20 := Tryz.underlying20
 a20 := Tryz.isAgg20
 z20 := Tryz.sizeOf20
 v20 := Tryz.zeroValue20
 t21 := Tryz.underlying21
 a21 := Tryz.isAgg21
 z21 := Tryz.sizeOf21
 v21 := Tryz.zeroValue21
 t37 := Tryz.underlying180
 a37 := Tryz.isAgg180
 z37 := Tryz.sizeOf180
 v37 := Tryz.zeroValue180
 t46 := Tryz.underlying129
 a46 := Tryz.isAgg129
 z46 := Tryz.sizeOf129
 v46 := Tryz.zeroValue129
 t51 := Tryz.underlying151
 a51 := Tryz.isAgg151
 z51 := Tryz.sizeOf151
 v51 := Tryz.zeroValue151
 t53 := Tryz.underlying153
 a53 := Tryz.isAgg153
 z53 := Tryz.sizeOf153
 v53 := Tryz.zeroValue153
 t75 := Tryz.underlying212
 a75 := Tryz.isAgg212
 z75 := Tryz.sizeOf212
 v75 := Tryz.zeroValue212
 t76 := Tryz.underlying213
 a76 := Tryz.isAgg213
 z76 := Tryz.sizeOf213
 v76 := Tryz.zeroValue213
 t85 := Tryz.underlying223
 a85 := Tryz.isAgg223
 z85 := Tryz.sizeOf223
 v85 := Tryz.zeroValue223
 t127 := Tryz.underlying235
 a127 := Tryz.isAgg235
 z127 := Tryz.sizeOf235
 v127 := Tryz.zeroValue235
 t143 := Tryz.underlying236
 a143 := Tryz.isAgg236
 z143 := Tryz.sizeOf236
 v143 := Tryz.zeroValue236
 t145 := Tryz.underlying238
 a145 := Tryz.isAgg238
 z145 := Tryz.sizeOf238
 v145 := Tryz.zeroValue238
 t167 := Tryz.underlying222
 a167 := Tryz.isAgg222
 z167 := Tryz.sizeOf222
 v167 := Tryz.zeroValue222
 t168 := Tryz.underlying225
 a168 := Tryz.isAgg225
 z168 := Tryz.sizeOf225
 v168 := Tryz.zeroValue225
 t171 := Tryz.underlying240
 a171 := Tryz.isAgg240
 z171 := Tryz.sizeOf240
 v171 := Tryz.zeroValue240
 t173 := Tryz.underlying242
 a173 := Tryz.isAgg242
 z173 := Tryz.sizeOf242
 v173 := Tryz.zeroValue242
 t175 := Tryz.underlying228
 a175 := Tryz.isAgg228
 z175 := Tryz.sizeOf228
 v175 := Tryz.zeroValue228
 t210 := Tryz.underlying231
 a210 := Tryz.isAgg231
 z210 := Tryz.sizeOf231
 v210 := Tryz.zeroValue231
 t212 := Tryz.underlying245
 a212 := Tryz.isAgg245
 z212 := Tryz.sizeOf245
 v212 := Tryz.zeroValue245
 t213 := Tryz.underlying246
 a213 := Tryz.isAgg246
 z213 := Tryz.sizeOf246
 t232 := Tryz.underlying247
 a232 := Tryz.isAgg247
 z232 := Tryz.sizeOf247
 v232 := Tryz.zeroValue247
 t233 := Tryz.underlying248
 a233 := Tryz.isAgg248
 z233 := Tryz.sizeOf248
 v233 := Tryz.zeroValue248
 g15 := by kernel_rfl
 g16 := by kernel_rfl
 g17 := by kernel_rfl
 g18 := by kernel_rfl
 g19 := by kernel_rfl
 t80 := Tryz.underlying249
 a80 := Tryz.isAgg249
 z80 := Tryz.sizeOf249
 v80 := Tryz.zeroValue249
 i0 := by kernel_rfl
 i2 := by kernel_rfl
 i3 := by kernel_rfl
 i4 := by kernel_rfl
 i5 := by kernel_rfl
 i9 := by kernel_rfl
 i20 := by kernel_rfl
 i21 := by kernel_rfl
 i37 := by kernel_rfl
 i46 := by kernel_rfl
 i51 := by kernel_rfl
 i53 := by kernel_rfl
 i75 := by kernel_rfl
 i76 := by kernel_rfl
 i80 := by kernel_rfl
 i85 := by kernel_rfl
 i127 := by kernel_rfl
 i143 := by kernel_rfl
 i145 := by kernel_rfl
 i167 := by kernel_rfl
 i168 := by kernel_rfl
 i171 := by kernel_rfl
 i173 := by kernel_rfl
 i175 := by kernel_rfl
 i210 := by kernel_rfl
 i212 := by kernel_rfl
 i232 := by kernel_rfl
 i233 := by kernel_rfl
 m15 := by kernel_rfl
 m16 := by kernel_rfl
 m17 := by kernel_rfl
 m18 := by kernel_rfl
 m19 := by kernel_rfl
 c0 := by kernel_rfl
 c2 := by kernel_rfl
 c3 := by kernel_rfl
 c4 := by kernel_rfl
 c5 := by kernel_rfl
 c9 := by kernel_rfl
 c20 := by kernel_rfl
 c21 := by kernel_rfl
 c37 := by kernel_rfl
 c46 := by kernel_rfl
 c51 := by kernel_rfl
 c53 := by kernel_rfl
 c75 := by kernel_rfl
 c76 := by kernel_rfl
 c80 := by kernel_rfl
 c85 := by kernel_rfl
 c127 := by kernel_rfl
 c143 := by kernel_rfl
 c145 := by kernel_rfl
 c167 := by kernel_rfl
 c168 := by kernel_rfl
 c171 := by kernel_rfl
 c173 := by kernel_rfl
 c175 := by kernel_rfl
 c210 := by kernel_rfl
 c212 := by kernel_rfl
 c213 := by kernel_rfl
 c232 := by kernel_rfl
 c233 := by kernel_rfl }
def Tryz.lays217_ren : Go.Shelf.Ren := ⟨fun | 217 => 185 | 266 => 209 | n => n,fun | 9 => 9 | 5 => 5 | 3 => 3 | n => n,fun | n => n⟩
theorem Tryz.lays217 : Go.Proofs.Lays.n217 Tryz.prog Tryz.lays217_ren := {
 mixed := by kernel_rfl
 f217 := Tryz.func185.trans (congrArg some (by kernel_rfl))
 f266 := Tryz.func209.trans (congrArg some (by kernel_rfl))
 t3 := Tryz.underlying3
 a3 := Tryz.isAgg3
 z3 := Tryz.sizeOf3
 v3 := Tryz.zeroValue3
 t5 := Tryz.underlying5
 a5 := Tryz.isAgg5
 z5 := Tryz.sizeOf5
 v5 := Tryz.zeroValue5
 t9 := Tryz.underlying9
 a9 := Tryz.isAgg9
 z9 := Tryz.sizeOf9
 v9 := Tryz.zeroValue9 }
open Go.RowKit Go.Lib in
theorem Tryz.stringslite_IndexByte (s : ByteArray) (c : Int) (w : World) :
  Calls Tryz.prog 185 #[.string s,.int .u8 c] w fun e w' => e = .returned (.int .i64 (Lib.indexByte s.data.toList c.toNat.toUInt8)) ∧ w' = w := Any.stringslite_IndexByte Tryz.lays217 s c w
def Tryz.lays219_ren : Go.Shelf.Ren := ⟨fun | 219 => 184 | 217 => 185 | 225 => 206 | 224 => 207 | 267 => 208 | 266 => 209 | 314 => 215 | n => n,fun | 9 => 9 | 3 => 3 | 4 => 4 | 5 => 5 | 46 => 129 | 146 => 219 | 51 => 151 | n => n,fun | 1 => 0 | n => n⟩
theorem Tryz.lays219 : Go.Proofs.Lays.n219 Tryz.prog Tryz.lays219_ren := {
 mixed := by kernel_rfl
 f217 := Tryz.func185.trans (congrArg some (by kernel_rfl))
 f219 := Tryz.func184.trans (congrArg some (by kernel_rfl))
 f224 := Tryz.func207.trans (congrArg some (by kernel_rfl))
 f225 := Tryz.func206.trans (congrArg some (by kernel_rfl))
 f266 := Tryz.func209.trans (congrArg some (by kernel_rfl))
 f267 := Tryz.func208.trans (congrArg some (by kernel_rfl))
 f314 := Tryz.func215.trans (congrArg some (by kernel_rfl))
 t3 := Tryz.underlying3
 a3 := Tryz.isAgg3
 z3 := Tryz.sizeOf3
 v3 := Tryz.zeroValue3
 t4 := Tryz.underlying4
 a4 := Tryz.isAgg4
 z4 := Tryz.sizeOf4
 v4 := Tryz.zeroValue4
 t5 := Tryz.underlying5
 a5 := Tryz.isAgg5
 z5 := Tryz.sizeOf5
 v5 := Tryz.zeroValue5
 t9 := Tryz.underlying9
 a9 := Tryz.isAgg9
 z9 := Tryz.sizeOf9
 v9 := Tryz.zeroValue9
 t46 := Tryz.underlying129
 a46 := Tryz.isAgg129
 z46 := Tryz.sizeOf129
 v46 := Tryz.zeroValue129
 t51 := Tryz.underlying151
 a51 := Tryz.isAgg151
 z51 := Tryz.sizeOf151
 v51 := Tryz.zeroValue151
 t146 := Tryz.underlying219
 a146 := Tryz.isAgg219
 z146 := Tryz.sizeOf219
 v146 := Tryz.zeroValue219
 g1 := by kernel_rfl }
open Go.RowKit Go.Lib in
theorem Tryz.stringslite_Index_one (s : ByteArray) (c : UInt8) (w : World) :
  Calls Tryz.prog 184 #[.string s,.string ⟨#[c]⟩] w fun e w' => e = .returned (.int .i64 (Lib.indexByte s.data.toList c)) ∧ w' = w := Any.stringslite_Index_one Tryz.lays219 s c w
def Tryz.lays143_ren : Go.Shelf.Ren := ⟨fun | 143 => 133 | 219 => 184 | 217 => 185 | 225 => 206 | 224 => 207 | 267 => 208 | 266 => 209 | 314 => 215 | n => n,fun | 9 => 9 | 3 => 3 | 4 => 4 | 5 => 5 | 46 => 129 | 146 => 219 | 51 => 151 | n => n,fun | 1 => 0 | n => n⟩
theorem Tryz.lays143 : Go.Proofs.Lays.n143 Tryz.prog Tryz.lays143_ren := {
 mixed := by kernel_rfl
 f143 := Tryz.func133.trans (congrArg some (by kernel_rfl))
 f217 := Tryz.func185.trans (congrArg some (by kernel_rfl))
 f219 := Tryz.func184.trans (congrArg some (by kernel_rfl))
 f224 := Tryz.func207.trans (congrArg some (by kernel_rfl))
 f225 := Tryz.func206.trans (congrArg some (by kernel_rfl))
 f266 := Tryz.func209.trans (congrArg some (by kernel_rfl))
 f267 := Tryz.func208.trans (congrArg some (by kernel_rfl))
 f314 := Tryz.func215.trans (congrArg some (by kernel_rfl))
 t3 := Tryz.underlying3
 a3 := Tryz.isAgg3
 z3 := Tryz.sizeOf3
 v3 := Tryz.zeroValue3
 t4 := Tryz.underlying4
 a4 := Tryz.isAgg4
 z4 := Tryz.sizeOf4
 v4 := Tryz.zeroValue4
 t5 := Tryz.underlying5
 a5 := Tryz.isAgg5
 z5 := Tryz.sizeOf5
 v5 := Tryz.zeroValue5
 t9 := Tryz.underlying9
 a9 := Tryz.isAgg9
 z9 := Tryz.sizeOf9
 v9 := Tryz.zeroValue9
 t46 := Tryz.underlying129
 a46 := Tryz.isAgg129
 z46 := Tryz.sizeOf129
 v46 := Tryz.zeroValue129
 t51 := Tryz.underlying151
 a51 := Tryz.isAgg151
 z51 := Tryz.sizeOf151
 v51 := Tryz.zeroValue151
 t146 := Tryz.underlying219
 a146 := Tryz.isAgg219
 z146 := Tryz.sizeOf219
 v146 := Tryz.zeroValue219
 g1 := by kernel_rfl }
open Go.RowKit Go.Lib in
theorem Tryz.strings_Index_one (s : ByteArray) (c : UInt8) (w : World) :
  Calls Tryz.prog 133 #[.string s,.string ⟨#[c]⟩] w fun e w' => e = .returned (.int .i64 (Lib.indexByte s.data.toList c)) ∧ w' = w := Any.strings_Index_one Tryz.lays143 s c w
def Tryz.lays138_ren : Go.Shelf.Ren := ⟨fun | 138 => 132 | 195 => 181 | 218 => 183 | 143 => 133 | 219 => 184 | 217 => 185 | 225 => 206 | 224 => 207 | 267 => 208 | 266 => 209 | 314 => 215 | n => n,fun | 9 => 9 | 3 => 3 | 4 => 4 | 5 => 5 | 0 => 0 | 46 => 129 | 146 => 219 | 51 => 151 | n => n,fun | 1 => 0 | n => n⟩
theorem Tryz.lays138 : Go.Proofs.Lays.n138 Tryz.prog Tryz.lays138_ren := {
 mixed := by kernel_rfl
 f138 := Tryz.func132.trans (congrArg some (by kernel_rfl))
 f143 := Tryz.func133.trans (congrArg some (by kernel_rfl))
 f195 := Tryz.func181.trans (congrArg some (by kernel_rfl))
 f217 := Tryz.func185.trans (congrArg some (by kernel_rfl))
 f218 := Tryz.func183.trans (congrArg some (by kernel_rfl))
 f219 := Tryz.func184.trans (congrArg some (by kernel_rfl))
 f224 := Tryz.func207.trans (congrArg some (by kernel_rfl))
 f225 := Tryz.func206.trans (congrArg some (by kernel_rfl))
 f266 := Tryz.func209.trans (congrArg some (by kernel_rfl))
 f267 := Tryz.func208.trans (congrArg some (by kernel_rfl))
 f314 := Tryz.func215.trans (congrArg some (by kernel_rfl))
 t0 := Tryz.underlying0
 a0 := Tryz.isAgg0
 z0 := Tryz.sizeOf0
 v0 := Tryz.zeroValue0
 t3 := Tryz.underlying3
 a3 := Tryz.isAgg3
 z3 := Tryz.sizeOf3
 v3 := Tryz.zeroValue3
 t4 := Tryz.underlying4
 a4 := Tryz.isAgg4
 z4 := Tryz.sizeOf4
 v4 := Tryz.zeroValue4
 t5 := Tryz.underlying5
 a5 := Tryz.isAgg5
 z5 := Tryz.sizeOf5
 v5 := Tryz.zeroValue5
 t9 := Tryz.underlying9
 a9 := Tryz.isAgg9
 z9 := Tryz.sizeOf9
 v9 := Tryz.zeroValue9
 t46 := Tryz.underlying129
 a46 := Tryz.isAgg129
 z46 := Tryz.sizeOf129
 v46 := Tryz.zeroValue129
 t51 := Tryz.underlying151
 a51 := Tryz.isAgg151
 z51 := Tryz.sizeOf151
 v51 := Tryz.zeroValue151
 t146 := Tryz.underlying219
 a146 := Tryz.isAgg219
 z146 := Tryz.sizeOf219
 v146 := Tryz.zeroValue219
 g1 := by kernel_rfl }
open Go.RowKit Go.Lib in
theorem Tryz.strings_Count_one (s : ByteArray) (c : UInt8) (w : World) :
  Calls Tryz.prog 132 #[.string s,.string ⟨#[c]⟩] w fun e w' => e = .returned (.int .i64 (Lib.countByte s.data.toList c)) ∧ w' = w := Any.strings_Count_one Tryz.lays138 s c w
def Tryz.lays315_ren : Go.Shelf.Ren := ⟨fun | 315 => 201 | n => n,fun | 9 => 9 | 40 => 140 | 4 => 4 | 3 => 3 | 0 => 0 | 21 => 21 | n => n,fun | n => n⟩
theorem Tryz.lays315 : Go.Proofs.Lays.n315 Tryz.prog Tryz.lays315_ren := {
 mixed := by kernel_rfl
 f315 := Tryz.func201.trans (congrArg some (by kernel_rfl))
 t0 := Tryz.underlying0
 a0 := Tryz.isAgg0
 z0 := Tryz.sizeOf0
 v0 := Tryz.zeroValue0
 t3 := Tryz.underlying3
 a3 := Tryz.isAgg3
 z3 := Tryz.sizeOf3
 v3 := Tryz.zeroValue3
 t4 := Tryz.underlying4
 a4 := Tryz.isAgg4
 z4 := Tryz.sizeOf4
 v4 := Tryz.zeroValue4
 t9 := Tryz.underlying9
 a9 := Tryz.isAgg9
 z9 := Tryz.sizeOf9
 v9 := Tryz.zeroValue9
 t21 := Tryz.underlying21
 a21 := Tryz.isAgg21
 z21 := Tryz.sizeOf21
 v21 := Tryz.zeroValue21
 t40 := Tryz.underlying140
 a40 := Tryz.isAgg140
 z40 := Tryz.sizeOf140
 v40 := Tryz.zeroValue140 }
def Tryz.lays221_ren : Go.Shelf.Ren := ⟨fun | 221 => 99 | 268 => 131 | 138 => 132 | 143 => 133 | 195 => 181 | 197 => 182 | 218 => 183 | 219 => 184 | 260 => 205 | 217 => 185 | 225 => 206 | 224 => 207 | 267 => 208 | 266 => 209 | 314 => 215 | n => n,fun | 9 => 9 | 3 => 3 | 31 => 23 | 4 => 4 | 0 => 0 | 105 => 193 | 21 => 21 | 5 => 5 | 46 => 129 | 119 => 215 | 139 => 218 | 138 => 217 | 146 => 219 | 51 => 151 | n => n,fun | 1 => 0 | 3 => 1 | 4 => 2 | n => n⟩
theorem Tryz.lays221 : Go.Proofs.Lays.n221 Tryz.prog Tryz.lays221_ren := {
 mixed := by kernel_rfl
 f138 := Tryz.func132.trans (congrArg some (by kernel_rfl))
 f143 := Tryz.func133.trans (congrArg some (by kernel_rfl))
 f195 := Tryz.func181.trans (congrArg some (by kernel_rfl))
 f197 := Tryz.func182.trans (congrArg some (by kernel_rfl))
 f217 := Tryz.func185.trans (congrArg some (by kernel_rfl))
 f218 := Tryz.func183.trans (congrArg some (by kernel_rfl))
 f219 := Tryz.func184.trans (congrArg some (by kernel_rfl))
 f221 := Tryz.func99.trans (congrArg some (by kernel_rfl))
 f224 := Tryz.func207.trans (congrArg some (by kernel_rfl))
 f225 := Tryz.func206.trans (congrArg some (by kernel_rfl))
 f260 := Tryz.func205.trans (congrArg some (by kernel_rfl))
 f266 := Tryz.func209.trans (congrArg some (by kernel_rfl))
 f267 := Tryz.func208.trans (congrArg some (by kernel_rfl))
 f268 := Tryz.func131.trans (congrArg some (by kernel_rfl))
 f314 := Tryz.func215.trans (congrArg some (by kernel_rfl))
 t0 := Tryz.underlying0
 a0 := Tryz.isAgg0
 z0 := Tryz.sizeOf0
 v0 := Tryz.zeroValue0
 t3 := Tryz.underlying3
 a3 := Tryz.isAgg3
 z3 := Tryz.sizeOf3
 v3 := Tryz.zeroValue3
 t4 := Tryz.underlying4
 a4 := Tryz.isAgg4
 z4 := Tryz.sizeOf4
 v4 := Tryz.zeroValue4
 t5 := Tryz.underlying5
 a5 := Tryz.isAgg5
 z5 := Tryz.sizeOf5
 v5 := Tryz.zeroValue5
 t9 := Tryz.underlying9
 a9 := Tryz.isAgg9
 z9 := Tryz.sizeOf9
 v9 := Tryz.zeroValue9
 t21 := Tryz.underlying21
 a21 := Tryz.isAgg21
 z21 := Tryz.sizeOf21
 v21 := Tryz.zeroValue21
 t31 := Tryz.underlying23
 a31 := Tryz.isAgg23
 z31 := Tryz.sizeOf23
 v31 := Tryz.zeroValue23
 t46 := Tryz.underlying129
 a46 := Tryz.isAgg129
 z46 := Tryz.sizeOf129
 v46 := Tryz.zeroValue129
 t51 := Tryz.underlying151
 a51 := Tryz.isAgg151
 z51 := Tryz.sizeOf151
 v51 := Tryz.zeroValue151
 t105 := Tryz.underlying193
 a105 := Tryz.isAgg193
 z105 := Tryz.sizeOf193
 v105 := Tryz.zeroValue193
 t119 := Tryz.underlying215
 a119 := Tryz.isAgg215
 z119 := Tryz.sizeOf215
 t138 := Tryz.underlying217
 a138 := Tryz.isAgg217
 z138 := Tryz.sizeOf217
 v138 := Tryz.zeroValue217
 t139 := Tryz.underlying218
 a139 := Tryz.isAgg218
 z139 := Tryz.sizeOf218
 v139 := Tryz.zeroValue218
 t146 := Tryz.underlying219
 a146 := Tryz.isAgg219
 z146 := Tryz.sizeOf219
 v146 := Tryz.zeroValue219
 g1 := by kernel_rfl
 g3 := by kernel_rfl
 g4 := by kernel_rfl }
def Tryz.keysS_ren : Go.Shelf.Ren := ⟨fun | 7 => 45 | 10 => 74 | n => n,fun | 23 => 77 | 26 => 9 | 3 => 4 | 28 => 87 | 0 => 0 | 27 => 86 | 33 => 78 | 4 => 4 | n => n,fun | n => n⟩
theorem Tryz.keysS : Go.Proofs.SlLaysZ.n7 Tryz.prog Tryz.keysS_ren := {
 mixed := by kernel_rfl
 f7 := ⟨Tryz.f45.name,by decide,Tryz.func45.trans (congrArg some (by kernel_rfl))⟩
 f10 := ⟨Tryz.f74.name,by decide,Tryz.func74.trans (congrArg some (by kernel_rfl))⟩
 t0 := Tryz.underlying0
 a0 := Tryz.isAgg0
 z0 := Tryz.sizeOf0
 v0 := Tryz.zeroValue0
 t4 := Tryz.underlying4
 a4 := Tryz.isAgg4
 z4 := Tryz.sizeOf4
 v4 := Tryz.zeroValue4
 t23 := Tryz.underlying77
 a23 := Tryz.isAgg77
 z23 := Tryz.sizeOf77
 v23 := Tryz.zeroValue77
 t26 := Tryz.underlying9
 a26 := Tryz.isAgg9
 z26 := Tryz.sizeOf9
 v26 := Tryz.zeroValue9
 t27 := Tryz.underlying86
 a27 := Tryz.isAgg86
 z27 := Tryz.sizeOf86
 v27 := Tryz.zeroValue86
 t28 := Tryz.underlying87
 a28 := Tryz.isAgg87
 z28 := Tryz.sizeOf87
 v28 := Tryz.zeroValue87
 t33 := Tryz.underlying78
 a33 := Tryz.isAgg78
 z33 := Tryz.sizeOf78
 v33 := Tryz.zeroValue78 }
def Tryz.sortedS_ren : Go.Shelf.Ren := ⟨fun | 6 => 44 | 8 => 72 | 9 => 73 | 11 => 102 | 13 => 91 | 12 => 103 | 23 => 123 | 24 => 124 | 14 => 135 | 15 => 136 | 16 => 137 | 17 => 138 | 18 => 139 | 19 => 140 | 20 => 141 | 21 => 142 | 22 => 143 | 25 => 186 | 26 => 174 | 27 => 175 | 28 => 187 | 29 => 188 | 30 => 189 | 31 => 210 | n => n,fun | 26 => 9 | 28 => 87 | 24 => 23 | 0 => 0 | 3 => 3 | 37 => 129 | 48 => 151 | 50 => 153 | 4 => 4 | 40 => 145 | 39 => 144 | 45 => 84 | 5 => 5 | 9 => 9 | 51 => 185 | 55 => 189 | 57 => 203 | 58 => 204 | 33 => 78 | n => n,fun | n => n⟩
theorem Tryz.sortedS : Go.Proofs.SlLaysZ.n6 Tryz.prog Tryz.sortedS_ren := {
 mixed := by kernel_rfl
 f6 := ⟨Tryz.f44.name,by decide,Tryz.func44.trans (congrArg some (by kernel_rfl))⟩
 f8 := ⟨Tryz.f72.name,by decide,Tryz.func72.trans (congrArg some (by kernel_rfl))⟩
 f11 := ⟨Tryz.f102.name,by decide,Tryz.func102.trans (congrArg some (by kernel_rfl))⟩
 t0 := Tryz.underlying0
 a0 := Tryz.isAgg0
 z0 := Tryz.sizeOf0
 v0 := Tryz.zeroValue0
 t24 := Tryz.underlying23
 a24 := Tryz.isAgg23
 z24 := Tryz.sizeOf23
 v24 := Tryz.zeroValue23
 t26 := Tryz.underlying9
 a26 := Tryz.isAgg9
 z26 := Tryz.sizeOf9
 v26 := Tryz.zeroValue9
 t28 := Tryz.underlying87
 a28 := Tryz.isAgg87
 z28 := Tryz.sizeOf87
 v28 := Tryz.zeroValue87
 i26 := by kernel_rfl }
def Tryz.sortS_ren : Go.Shelf.Ren := ⟨fun | 6 => 73 | 8 => 91 | 9 => 103 | 19 => 123 | 20 => 124 | 21 => 135 | 22 => 136 | 23 => 137 | 24 => 138 | 25 => 139 | 26 => 140 | 27 => 141 | 28 => 142 | 29 => 143 | 36 => 186 | 31 => 174 | 32 => 175 | 37 => 187 | 38 => 188 | 39 => 189 | 41 => 210 | n => n,fun | 27 => 23 | 29 => 9 | 3 => 3 | 32 => 129 | 26 => 23 | 0 => 0 | 44 => 151 | 46 => 153 | 4 => 4 | 36 => 145 | 35 => 144 | 41 => 84 | 5 => 5 | 9 => 9 | 53 => 185 | 57 => 189 | 63 => 203 | 64 => 204 | n => n,fun | n => n⟩
theorem Tryz.sortS : Go.Proofs.SlLaysM.n6 Tryz.prog Tryz.sortS_ren := {
 mixed := by kernel_rfl
 f6 := ⟨Tryz.f73.name,by decide,Tryz.func73.trans (congrArg some (by kernel_rfl))⟩
 f8 := Tryz.func91.trans (congrArg some (by kernel_rfl))
 f9 := ⟨Tryz.f103.name,by decide,Tryz.func103.trans (congrArg some (by kernel_rfl))⟩
 f19 := Tryz.func123.trans (congrArg some (by kernel_rfl))
 f20 := Tryz.func124.trans (congrArg some (by kernel_rfl))
 f21 := ⟨Tryz.f135.name,by decide,Tryz.func135.trans (congrArg some (by kernel_rfl))⟩
 f22 := ⟨Tryz.f136.name,by decide,Tryz.func136.trans (congrArg some (by kernel_rfl))⟩
 f23 := ⟨Tryz.f137.name,by decide,Tryz.func137.trans (congrArg some (by kernel_rfl))⟩
 f24 := ⟨Tryz.f138.name,by decide,Tryz.func138.trans (congrArg some (by kernel_rfl))⟩
 f25 := ⟨Tryz.f139.name,by decide,Tryz.func139.trans (congrArg some (by kernel_rfl))⟩
 f26 := ⟨Tryz.f140.name,by decide,Tryz.func140.trans (congrArg some (by kernel_rfl))⟩
 f27 := ⟨Tryz.f141.name,by decide,Tryz.func141.trans (congrArg some (by kernel_rfl))⟩
 f28 := ⟨Tryz.f142.name,by decide,Tryz.func142.trans (congrArg some (by kernel_rfl))⟩
 f29 := ⟨Tryz.f143.name,by decide,Tryz.func143.trans (congrArg some (by kernel_rfl))⟩
 f31 := Tryz.func174.trans (congrArg some (by kernel_rfl))
 f32 := Tryz.func175.trans (congrArg some (by kernel_rfl))
 f36 := ⟨Tryz.f186.name,by decide,Tryz.func186.trans (congrArg some (by kernel_rfl))⟩
 f37 := ⟨Tryz.f187.name,by decide,Tryz.func187.trans (congrArg some (by kernel_rfl))⟩
 f38 := ⟨Tryz.f188.name,by decide,Tryz.func188.trans (congrArg some (by kernel_rfl))⟩
 f39 := ⟨Tryz.f189.name,by decide,Tryz.func189.trans (congrArg some (by kernel_rfl))⟩
 f41 := ⟨Tryz.f210.name,by decide,Tryz.func210.trans (congrArg some (by kernel_rfl))⟩
 t0 := Tryz.underlying0
 a0 := Tryz.isAgg0
 z0 := Tryz.sizeOf0
 v0 := Tryz.zeroValue0
 t3 := Tryz.underlying3
 a3 := Tryz.isAgg3
 z3 := Tryz.sizeOf3
 v3 := Tryz.zeroValue3
 t4 := Tryz.underlying4
 a4 := Tryz.isAgg4
 z4 := Tryz.sizeOf4
 v4 := Tryz.zeroValue4
 t5 := Tryz.underlying5
 a5 := Tryz.isAgg5
 z5 := Tryz.sizeOf5
 v5 := Tryz.zeroValue5
 t9 := Tryz.underlying9
 a9 := Tryz.isAgg9
 z9 := Tryz.sizeOf9
 v9 := Tryz.zeroValue9
 t26 := Tryz.underlying23
 a26 := Tryz.isAgg23
 z26 := Tryz.sizeOf23
 v26 := Tryz.zeroValue23
 t27 := Tryz.underlying23
 a27 := Tryz.isAgg23
 z27 := Tryz.sizeOf23
 v27 := Tryz.zeroValue23
 t29 := Tryz.underlying9
 a29 := Tryz.isAgg9
 z29 := Tryz.sizeOf9
 v29 := Tryz.zeroValue9
 t32 := Tryz.underlying129
 a32 := Tryz.isAgg129
 z32 := Tryz.sizeOf129
 v32 := Tryz.zeroValue129
 t35 := Tryz.underlying144
 a35 := Tryz.isAgg144
 z35 := Tryz.sizeOf144
 v35 := Tryz.zeroValue144
 t36 := Tryz.underlying145
 a36 := Tryz.isAgg145
 z36 := Tryz.sizeOf145
 v36 := Tryz.zeroValue145
 t41 := Tryz.underlying84
 a41 := Tryz.isAgg84
 z41 := Tryz.sizeOf84
 v41 := Tryz.zeroValue84
 t44 := Tryz.underlying151
 a44 := Tryz.isAgg151
 z44 := Tryz.sizeOf151
 v44 := Tryz.zeroValue151
 t46 := Tryz.underlying153
 a46 := Tryz.isAgg153
 z46 := Tryz.sizeOf153
 v46 := Tryz.zeroValue153
 t53 := Tryz.underlying185
 a53 := Tryz.isAgg185
 z53 := Tryz.sizeOf185
 v53 := Tryz.zeroValue185
 t57 := Tryz.underlying189
 a57 := Tryz.isAgg189
 z57 := Tryz.sizeOf189
 v57 := Tryz.zeroValue189
 t63 := Tryz.underlying203
 a63 := Tryz.isAgg203
 z63 := Tryz.sizeOf203
 v63 := Tryz.zeroValue203
 t64 := Tryz.underlying204
 a64 := Tryz.isAgg204
 z64 := Tryz.sizeOf204
 v64 := Tryz.zeroValue204 }
def Tryz.keysI_ren : Go.Shelf.Ren := ⟨fun | 7 => 52 | 10 => 80 | n => n,fun | 23 => 94 | 26 => 3 | 3 => 4 | 28 => 97 | 0 => 0 | 27 => 96 | 33 => 82 | 4 => 4 | n => n,fun | n => n⟩
theorem Tryz.keysI : Go.Proofs.SlLaysZI.n7 Tryz.prog Tryz.keysI_ren := {
 mixed := by kernel_rfl
 f7 := ⟨Tryz.f52.name,by decide,Tryz.func52.trans (congrArg some (by kernel_rfl))⟩
 f10 := ⟨Tryz.f80.name,by decide,Tryz.func80.trans (congrArg some (by kernel_rfl))⟩
 t0 := Tryz.underlying0
 a0 := Tryz.isAgg0
 z0 := Tryz.sizeOf0
 v0 := Tryz.zeroValue0
 t4 := Tryz.underlying4
 a4 := Tryz.isAgg4
 z4 := Tryz.sizeOf4
 v4 := Tryz.zeroValue4
 t23 := Tryz.underlying94
 a23 := Tryz.isAgg94
 z23 := Tryz.sizeOf94
 v23 := Tryz.zeroValue94
 t26 := Tryz.underlying3
 a26 := Tryz.isAgg3
 z26 := Tryz.sizeOf3
 v26 := Tryz.zeroValue3
 t27 := Tryz.underlying96
 a27 := Tryz.isAgg96
 z27 := Tryz.sizeOf96
 v27 := Tryz.zeroValue96
 t28 := Tryz.underlying97
 a28 := Tryz.isAgg97
 z28 := Tryz.sizeOf97
 v28 := Tryz.zeroValue97
 t33 := Tryz.underlying82
 a33 := Tryz.isAgg82
 z33 := Tryz.sizeOf82
 v33 := Tryz.zeroValue82 }
def Tryz.sortedI_ren : Go.Shelf.Ren := ⟨fun | 6 => 51 | 8 => 78 | 9 => 79 | 11 => 107 | 13 => 91 | 12 => 108 | 23 => 123 | 24 => 124 | 14 => 152 | 15 => 153 | 16 => 154 | 17 => 155 | 18 => 156 | 19 => 157 | 20 => 158 | 21 => 159 | 22 => 160 | 25 => 194 | 26 => 174 | 27 => 175 | 28 => 195 | 29 => 196 | 30 => 197 | 31 => 211 | n => n,fun | 26 => 3 | 28 => 97 | 24 => 45 | 0 => 0 | 3 => 3 | 37 => 129 | 48 => 151 | 50 => 153 | 4 => 4 | 40 => 145 | 39 => 144 | 45 => 84 | 5 => 5 | 9 => 9 | 51 => 185 | 55 => 189 | 57 => 203 | 58 => 204 | 33 => 82 | n => n,fun | n => n⟩
theorem Tryz.sortedI : Go.Proofs.SlLaysZI.n6 Tryz.prog Tryz.sortedI_ren := {
 mixed := by kernel_rfl
 f6 := ⟨Tryz.f51.name,by decide,Tryz.func51.trans (congrArg some (by kernel_rfl))⟩
 f8 := ⟨Tryz.f78.name,by decide,Tryz.func78.trans (congrArg some (by kernel_rfl))⟩
 f11 := ⟨Tryz.f107.name,by decide,Tryz.func107.trans (congrArg some (by kernel_rfl))⟩
 t0 := Tryz.underlying0
 a0 := Tryz.isAgg0
 z0 := Tryz.sizeOf0
 v0 := Tryz.zeroValue0
 t24 := Tryz.underlying45
 a24 := Tryz.isAgg45
 z24 := Tryz.sizeOf45
 v24 := Tryz.zeroValue45
 t26 := Tryz.underlying3
 a26 := Tryz.isAgg3
 z26 := Tryz.sizeOf3
 v26 := Tryz.zeroValue3
 t28 := Tryz.underlying97
 a28 := Tryz.isAgg97
 z28 := Tryz.sizeOf97
 v28 := Tryz.zeroValue97
 i26 := by kernel_rfl }
def Tryz.sortI_ren : Go.Shelf.Ren := ⟨fun | 5 => 79 | 8 => 91 | 7 => 108 | 19 => 123 | 20 => 124 | 10 => 152 | 11 => 153 | 12 => 154 | 13 => 155 | 14 => 156 | 15 => 157 | 16 => 158 | 17 => 159 | 18 => 160 | 30 => 194 | 31 => 174 | 32 => 175 | 33 => 195 | 34 => 196 | 35 => 197 | 40 => 211 | n => n,fun | 23 => 45 | 25 => 3 | 3 => 3 | 32 => 129 | 22 => 45 | 0 => 0 | 44 => 151 | 46 => 153 | 4 => 4 | 36 => 145 | 35 => 144 | 41 => 84 | 5 => 5 | 9 => 9 | 53 => 185 | 57 => 189 | 63 => 203 | 64 => 204 | n => n,fun | n => n⟩
theorem Tryz.sortI : Go.Proofs.SlLaysM.n5 Tryz.prog Tryz.sortI_ren := {
 mixed := by kernel_rfl
 f5 := ⟨Tryz.f79.name,by decide,Tryz.func79.trans (congrArg some (by kernel_rfl))⟩
 f7 := ⟨Tryz.f108.name,by decide,Tryz.func108.trans (congrArg some (by kernel_rfl))⟩
 f8 := Tryz.func91.trans (congrArg some (by kernel_rfl))
 f10 := ⟨Tryz.f152.name,by decide,Tryz.func152.trans (congrArg some (by kernel_rfl))⟩
 f11 := ⟨Tryz.f153.name,by decide,Tryz.func153.trans (congrArg some (by kernel_rfl))⟩
 f12 := ⟨Tryz.f154.name,by decide,Tryz.func154.trans (congrArg some (by kernel_rfl))⟩
 f13 := ⟨Tryz.f155.name,by decide,Tryz.func155.trans (congrArg some (by kernel_rfl))⟩
 f14 := ⟨Tryz.f156.name,by decide,Tryz.func156.trans (congrArg some (by kernel_rfl))⟩
 f15 := ⟨Tryz.f157.name,by decide,Tryz.func157.trans (congrArg some (by kernel_rfl))⟩
 f16 := ⟨Tryz.f158.name,by decide,Tryz.func158.trans (congrArg some (by kernel_rfl))⟩
 f17 := ⟨Tryz.f159.name,by decide,Tryz.func159.trans (congrArg some (by kernel_rfl))⟩
 f18 := ⟨Tryz.f160.name,by decide,Tryz.func160.trans (congrArg some (by kernel_rfl))⟩
 f19 := Tryz.func123.trans (congrArg some (by kernel_rfl))
 f20 := Tryz.func124.trans (congrArg some (by kernel_rfl))
 f30 := ⟨Tryz.f194.name,by decide,Tryz.func194.trans (congrArg some (by kernel_rfl))⟩
 f31 := Tryz.func174.trans (congrArg some (by kernel_rfl))
 f32 := Tryz.func175.trans (congrArg some (by kernel_rfl))
 f33 := ⟨Tryz.f195.name,by decide,Tryz.func195.trans (congrArg some (by kernel_rfl))⟩
 f34 := ⟨Tryz.f196.name,by decide,Tryz.func196.trans (congrArg some (by kernel_rfl))⟩
 f35 := ⟨Tryz.f197.name,by decide,Tryz.func197.trans (congrArg some (by kernel_rfl))⟩
 f40 := ⟨Tryz.f211.name,by decide,Tryz.func211.trans (congrArg some (by kernel_rfl))⟩
 t0 := Tryz.underlying0
 a0 := Tryz.isAgg0
 z0 := Tryz.sizeOf0
 v0 := Tryz.zeroValue0
 t3 := Tryz.underlying3
 a3 := Tryz.isAgg3
 z3 := Tryz.sizeOf3
 v3 := Tryz.zeroValue3
 t4 := Tryz.underlying4
 a4 := Tryz.isAgg4
 z4 := Tryz.sizeOf4
 v4 := Tryz.zeroValue4
 t5 := Tryz.underlying5
 a5 := Tryz.isAgg5
 z5 := Tryz.sizeOf5
 v5 := Tryz.zeroValue5
 t9 := Tryz.underlying9
 a9 := Tryz.isAgg9
 z9 := Tryz.sizeOf9
 v9 := Tryz.zeroValue9
 t22 := Tryz.underlying45
 a22 := Tryz.isAgg45
 z22 := Tryz.sizeOf45
 v22 := Tryz.zeroValue45
 t23 := Tryz.underlying45
 a23 := Tryz.isAgg45
 z23 := Tryz.sizeOf45
 v23 := Tryz.zeroValue45
 t25 := Tryz.underlying3
 a25 := Tryz.isAgg3
 z25 := Tryz.sizeOf3
 v25 := Tryz.zeroValue3
 t32 := Tryz.underlying129
 a32 := Tryz.isAgg129
 z32 := Tryz.sizeOf129
 v32 := Tryz.zeroValue129
 t35 := Tryz.underlying144
 a35 := Tryz.isAgg144
 z35 := Tryz.sizeOf144
 v35 := Tryz.zeroValue144
 t36 := Tryz.underlying145
 a36 := Tryz.isAgg145
 z36 := Tryz.sizeOf145
 v36 := Tryz.zeroValue145
 t41 := Tryz.underlying84
 a41 := Tryz.isAgg84
 z41 := Tryz.sizeOf84
 v41 := Tryz.zeroValue84
 t44 := Tryz.underlying151
 a44 := Tryz.isAgg151
 z44 := Tryz.sizeOf151
 v44 := Tryz.zeroValue151
 t46 := Tryz.underlying153
 a46 := Tryz.isAgg153
 z46 := Tryz.sizeOf153
 v46 := Tryz.zeroValue153
 t53 := Tryz.underlying185
 a53 := Tryz.isAgg185
 z53 := Tryz.sizeOf185
 v53 := Tryz.zeroValue185
 t57 := Tryz.underlying189
 a57 := Tryz.isAgg189
 z57 := Tryz.sizeOf189
 v57 := Tryz.zeroValue189
 t63 := Tryz.underlying203
 a63 := Tryz.isAgg203
 z63 := Tryz.sizeOf203
 v63 := Tryz.zeroValue203
 t64 := Tryz.underlying204
 a64 := Tryz.isAgg204
 z64 := Tryz.sizeOf204
 v64 := Tryz.zeroValue204 }
end Go.Proofs
set_option maxRecDepth 100000
namespace Go.Lm
open Go.Proofs
section
variable {R : Type}
abbrev H.IndexByte.ps : Mk := [some (.lf .str),some (.lf (.int .u8))]
abbrev H.IndexByte.rs : Mk := [some (.lf (.int .i64))]
def H.IndexByte.fn (_k : Nat) (x : ByteArray × Int × Unit) (S : List LV) (K : Int × Unit → List LV → Option R) : Option R := K ((Lib.indexByte x.1.data.toList x.2.1.toNat.toUInt8 : Int),()) S
def H.IndexByte.h (k : Nat) : Hd R := hT H.IndexByte.ps fun x S K => H.IndexByte.fn k x S fun r S => K (resE H.IndexByte.rs r) S
theorem H.IndexByte.ok (k : Nat) : HSound Tryz.prog 185 (H.IndexByte.h (R := R) k) :=
 hand_ok (enters_ok Tryz.func185 (by kernel_rfl) (by kernel_rfl)) (ps := H.IndexByte.ps) (rs := H.IndexByte.rs) (g := fun (x : ByteArray × Int × Unit) => some ((Lib.indexByte x.1.data.toList x.2.1.toNat.toUInt8 : Int),())) fun x r S hr => by
  cases hr
  exact LCalls.same rfl rfl fun w => Tryz.stringslite_IndexByte x.1 x.2.1 w
abbrev H.CompareString.ps : Mk := [some (.lf .str),some (.lf .str)]
abbrev H.CompareString.rs : Mk := [some (.lf (.int .i64))]
def H.CompareString.fn (_k : Nat) (x : ByteArray × ByteArray × Unit) (S : List LV) (K : Int × Unit → List LV → Option R) : Option R := K ((Lib.compareBytes x.1.data.toList x.2.1.data.toList : Int),()) S
def H.CompareString.h (k : Nat) : Hd R := hT H.CompareString.ps fun x S K => H.CompareString.fn k x S fun r S => K (resE H.CompareString.rs r) S
theorem H.CompareString.ok (k : Nat) : HSound Tryz.prog 92 (H.CompareString.h (R := R) k) :=
 hand_ok (enters_ok Tryz.func92 (by kernel_rfl) (by kernel_rfl)) (ps := H.CompareString.ps) (rs := H.CompareString.rs) (g := fun (x : ByteArray × ByteArray × Unit) => some ((Lib.compareBytes x.1.data.toList x.2.1.data.toList : Int),())) fun x r S hr => by
  cases hr
  exact LCalls.same rfl rfl fun w => Tryz.bytealg_CompareString x.1 x.2.1 w
abbrev H.genSplit.ps : Mk := [some (.lf .str),some (.lf .str),some (.lf (.int .i64)),some (.lf (.int .i64))]
abbrev H.genSplit.rs : Mk := [some (.lf (.sl 1))]
def splitF (x : ByteArray × ByteArray × Int × Int × Unit) : Option (List LV × Unit) := match decide (x.2.1.size = 1 ∧ x.2.2.1 = 0 ∧ x.2.2.2.1 = -1 ∧ x.1.size < 4294967281) with
 | true => some ((Lib.splitB x.2.1 0 (Lib.countB x.1 x.2.1) x.1).map .str,())
 | false => none
theorem splitF_some {s sep : ByteArray} {sv n : Int} {u : Unit} {r : List LV × Unit} (h : splitF (s,sep,sv,n,u) = some r) : ∃ b : UInt8,sep = ⟨#[b]⟩ ∧ sv = 0 ∧ n = -1 ∧ s.size < 4294967281 ∧ r = ((Lib.splitB sep 0 (Lib.countB s sep) s).map .str,()) := by
 simp only [splitF] at h
 split at h
 ·rename_i hd
  cases h
  obtain ⟨h1,h2,h3,h4⟩ := of_decide_eq_true hd
  obtain ⟨b,hb⟩ := Lib.one_byte sep h1
  exact ⟨b,hb,h2,h3,h4,rfl⟩
 ·cases h
def H.genSplit.fn (_k : Nat) (x : ByteArray × ByteArray × Int × Int × Unit) (S : List LV) (K : List LV × Unit → List LV → Option R) : Option R := handF H.genSplit.ps H.genSplit.rs splitF x S K
def H.genSplit.h (k : Nat) : Hd R := hT H.genSplit.ps fun x S K => H.genSplit.fn k x S fun r S => K (resE H.genSplit.rs r) S
theorem rigids_str : ∀ l : List ByteArray,rigids (l.map LV.str) = some (l.map Value.string)
 | [] => rfl
 | b :: l => by simp only [List.map_cons,rigids,rigid,rigids_str l]
theorem H.genSplit.calls (s : ByteArray) (b : UInt8) (hs : s.size < 4294967281) (w : World) :
  Calls Tryz.prog 99 #[.string s,.string ⟨#[b]⟩,.int .i64 0,.int .i64 (-1)] w fun e w' =>
   e = .returned (.slice (some ⟨w.heap.size,0,none⟩) (Lib.countB s ⟨#[b]⟩ + 1) (Lib.countB s ⟨#[b]⟩ + 1)) ∧ w' = w.alloc (.cells ((Lib.splitB ⟨#[b]⟩ 0 (Lib.countB s ⟨#[b]⟩) s).map Value.string).toArray (Tryz.lays221_ren.t 9)) := by
 have hle := Lib.countB_le ⟨#[b]⟩ (Nat.le_refl 1) s.size s (Nat.le_refl _)
 have hlen := Lib.splitB_all ⟨#[b]⟩ (Nat.le_refl 1) 0 _ s rfl
 have c := Any.strings_genSplit_core Tryz.lays221 (by kernel_rfl) s ⟨#[b]⟩ 0 (-1) (Lib.countB s ⟨#[b]⟩ + 1) w hs (Nat.le_refl 1) (Nat.zero_le _)
  (fun x c _ => by
   refine (Tryz.strings_Index_one x b _).mono ?_
   rintro e w' ⟨he,hw⟩
   refine ⟨?_,hw⟩
   rw [he]
   show _ = Ending.returned (Value.int .i64 (Lib.index x.data.toList [b]))
   rw [Lib.index_one])
  (by
   refine (Tryz.strings_Count_one s b w).mono ?_
   rintro e w' ⟨he,hw⟩
   refine ⟨?_,hw⟩
   rw [he]
   show _ = Ending.returned (Value.int .i64 ((Lib.count s.data.toList [b] : Nat) : Int))
   rw [Lib.count_one]
   rfl) (by decide) (by decide) (by rw [if_pos (by decide)]; omega)
 rw [Nat.add_sub_cancel,hlen] at c
 have e2 : Lib.cellsOf (Lib.splitB ⟨#[b]⟩ 0 (Lib.countB s ⟨#[b]⟩) s) (Lib.countB s ⟨#[b]⟩ + 1) = ((Lib.splitB ⟨#[b]⟩ 0 (Lib.countB s ⟨#[b]⟩) s).map Value.string).toArray := by rw [← hlen]; exact Lib.cellsOf_full _
 rw [e2] at c
 exact c
theorem H.genSplit.ok (k : Nat) : HSound Tryz.prog 99 (H.genSplit.h (R := R) k) :=
 hand_ok (enters_ok Tryz.func99 (by kernel_rfl) (by kernel_rfl)) (ps := H.genSplit.ps) (rs := H.genSplit.rs) (g := splitF) fun x r S hr => by
  obtain ⟨s,sep,sv,n,u⟩ := x
  obtain ⟨b,rfl,rfl,rfl,hs,rfl⟩ := splitF_some hr
  have hle := Lib.countB_le ⟨#[b]⟩ (Nat.le_refl 1) s.size s (Nat.le_refl _)
  have hlen := Lib.splitB_all ⟨#[b]⟩ (Nat.le_refl 1) 0 _ s rfl
  refine LCalls.row (vals := [.string s,.string ⟨#[b]⟩,.int .i64 0,.int .i64 (-1)]) (us := (Lib.splitB ⟨#[b]⟩ 0 (Lib.countB s ⟨#[b]⟩) s).map Value.string) (e := Tryz.lays221_ren.t 9) rfl (rigids_str _) (by simp) (by rw [List.length_map,hlen]; omega) fun w => ?_
  rw [List.length_map,hlen]
  exact H.genSplit.calls s b hs w
abbrev H.Trim.ps : Mk := [some (.lf .str),some (.lf .str)]
abbrev H.Trim.rs : Mk := [some (.lf .str)]
def trimF (x : ByteArray × ByteArray × Unit) : Option (ByteArray × Unit) := match decide (x.1.size ≤ 9223372036854775807) && decide (x.2.1.size < 4294967281) && x.2.1.data.toList.all (fun b => decide (b.toNat < 128)) with
 | true => some (⟨(Lib.trimS x.1.data.toList x.2.1.data.toList).toArray⟩,())
 | false => none
def H.Trim.fn (_k : Nat) (x : ByteArray × ByteArray × Unit) (S : List LV) (K : ByteArray × Unit → List LV → Option R) : Option R := handF H.Trim.ps H.Trim.rs trimF x S K
def H.Trim.h (k : Nat) : Hd R := hT H.Trim.ps fun x S K => H.Trim.fn k x S fun r S => K (resE H.Trim.rs r) S
theorem H.Trim.ok (k : Nat) : HSound Tryz.prog 109 (H.Trim.h (R := R) k) :=
 hand_ok (enters_ok Tryz.func109 (by kernel_rfl) (by kernel_rfl)) (ps := H.Trim.ps) (rs := H.Trim.rs) (g := trimF) fun x r S hr => by
  obtain ⟨s,cs,u⟩ := x
  simp only [trimF] at hr
  split at hr
  ·rename_i hd
   cases hr
   simp only [Bool.and_eq_true] at hd
   refine LCalls.below (vals := [.string s,.string cs]) (v := .string ⟨(Lib.trimS s.data.toList cs.data.toList).toArray⟩) rfl rfl fun w => ?_
   exact Any.strings_Trim_laid Tryz.lays160 (by kernel_rfl) s cs w (of_decide_eq_true hd.1.1) (of_decide_eq_true hd.1.2) (ascii_of_all hd.2)
  ·cases hr
noncomputable def H.powG : Nat := (Tryz.prog.globalNamed "internal/strconv.uint64pow10").getD 0
theorem H.powG_eq : Tryz.prog.globalNamed "internal/strconv.uint64pow10" = some H.powG := by kernel_rfl
def H.powA : Array Value := (Lib.pow10Tab.map fun z => Value.int .u64 z).toArray
abbrev H.Itoa.ps : Mk := [some (.lf (.int .i64))]
abbrev H.Itoa.rs : Mk := [some (.lf .str)]
def H.ItoaOk (S : List LV) (n : Int) : Prop := HasGlob S H.powG H.powA ∧ -9223372036854775808 ≤ n ∧ n ≤ 9223372036854775807
noncomputable def itoaF (S : List LV) (x : Int × Unit) : Option ((ByteArray × Unit) × List LV) := match (Classical.propDecidable (H.ItoaOk S x.1)).decide with
 | true => some ((⟨(Lib.itoa x.1).toArray⟩,()),S)
 | false => none
noncomputable def H.Itoa.fn (_k : Nat) (x : Int × Unit) (S : List LV) (K : ByteArray × Unit → List LV → Option R) : Option R := match itoaF S x with | some r => K r.1 r.2 | none => none
noncomputable def H.Itoa.h (k : Nat) : Hd R := hT H.Itoa.ps fun x S K => H.Itoa.fn k x S fun r S => K (resE H.Itoa.rs r) S
theorem H.Itoa.ok (k : Nat) : HSound Tryz.prog 227 (H.Itoa.h (R := R) k) :=
 hand_okS (enters_ok Tryz.func227 (by kernel_rfl) (by kernel_rfl)) (ps := H.Itoa.ps) (rs := H.Itoa.rs) (g := itoaF) (fun S x K => by unfold H.Itoa.fn; cases itoaF S x <;> rfl) fun x S r S' h => by
  obtain ⟨n,u⟩ := x
  unfold itoaF at h
  split at h
  ·rename_i hd
   cases h
   obtain ⟨h1,h2,h3⟩ : H.ItoaOk S n := @of_decide_eq_true _ (Classical.propDecidable _) hd
   exact hasGlob_var (vals := [.int .i64 n]) (v := .string ⟨(Lib.itoa n).toArray⟩) h1 rfl rfl fun w e fz hh =>
    (Tryz.strconv_Itoa n h2 h3 w (by unfold Lib.TabIs World.var?; rw [H.powG_eq]; simp only [Option.bind_some,hh]; rfl)).mono fun e w' ⟨he,k,os,hw⟩ => ⟨he,by rw [hw]; exact Lib.below_grow _ w (Nat.le_refl _) k os⟩
  ·cases h
abbrev H.Index.ps : Mk := [some (.lf .str),some (.lf .str)]
abbrev H.Index.rs : Mk := [some (.lf (.int .i64))]
def indexF (x : ByteArray × ByteArray × Unit) : Option (Int × Unit) := match x.2.1.data.toList with
 | [c] => some ((Lib.indexByte x.1.data.toList c : Int),())
 | _ => none
def H.Index.fn (_k : Nat) (x : ByteArray × ByteArray × Unit) (S : List LV) (K : Int × Unit → List LV → Option R) : Option R := handF H.Index.ps H.Index.rs indexF x S K
def H.Index.h (k : Nat) : Hd R := hT H.Index.ps fun x S K => H.Index.fn k x S fun r S => K (resE H.Index.rs r) S
theorem H.Index.ok (k : Nat) : HSound Tryz.prog 184 (H.Index.h (R := R) k) :=
 hand_ok (enters_ok Tryz.func184 (by kernel_rfl) (by kernel_rfl)) (ps := H.Index.ps) (rs := H.Index.rs) (g := indexF) fun x r S hr => by
  obtain ⟨s,⟨⟨b⟩⟩,u⟩ := x
  unfold indexF at hr
  split at hr
  ·rename_i c hc
   replace hc : b = [c] := hc
   subst hc
   cases hr
   exact LCalls.same rfl rfl fun w => Tryz.stringslite_Index_one s c w
  ·cases hr
noncomputable def H.errG : Nat := (Tryz.prog.globalNamed "strconv.ErrSyntax").getD 0
theorem H.errG_eq : Tryz.prog.globalNamed "strconv.ErrSyntax" = some H.errG := by kernel_rfl
noncomputable def H.rngG : Nat := (Tryz.prog.globalNamed "strconv.ErrRange").getD 0
theorem H.rngG_eq : Tryz.prog.globalNamed "strconv.ErrRange" = some H.rngG := by kernel_rfl
abbrev H.Atoi.ps : Mk := [some (.lf .str)]
abbrev H.Atoi.rs : Mk := [some (.lf (.int .i64)),some (.lf .raw)]
def H.AtoiErr (S : List LV) (s : ByteArray) : Prop := HasErr S H.errG ∧ HasErr S H.rngG ∧ s.size ≤ 281474976710656
def atoiV (s : ByteArray) : Int := match Lib.atoiAll s.data.toList with
 | .ok v => v
 | .range => Lib.atoiSat s.data.toList
 | _ => 0
noncomputable def atoiF (S : List LV) (x : ByteArray × Unit) : Option ((Int × LV × Unit) × List LV) := match Lib.atoiAll x.1.data.toList with
 | .ok v => (match decide (x.1.size ≤ 9223372036854775806) with
  | true => some ((v,.nili,()),S)
  | false => none)
 | _ => (match (Classical.propDecidable (H.AtoiErr S x.1)).decide with
  | true => some ((atoiV x.1,.any,()),S)
  | false => none)
noncomputable def H.Atoi.fn (_k : Nat) (x : ByteArray × Unit) (S : List LV) (K : Int × LV × Unit → List LV → Option R) : Option R := match atoiF S x with | some r => K r.1 r.2 | none => none
noncomputable def H.Atoi.h (k : Nat) : Hd R := hT H.Atoi.ps fun x S K => H.Atoi.fn k x S fun r S => K (resE H.Atoi.rs r) S
theorem H.Atoi.ok (k : Nat) : HSound Tryz.prog 214 (H.Atoi.h (R := R) k) :=
 hand_okS (enters_ok Tryz.func214 (by kernel_rfl) (by kernel_rfl)) (ps := H.Atoi.ps) (rs := H.Atoi.rs) (g := atoiF) (fun S x K => by unfold H.Atoi.fn; cases atoiF S x <;> rfl) fun x S r S' h => by
  obtain ⟨s,u⟩ := x
  unfold atoiF at h
  dsimp only at h
  have two : ∀ (c : Cx) (n : Int) (v : Value),Rep c (.tup [.int .i64 n,.any]) (.tuple #[.int .i64 n,v]) [] := fun c n v =>
   Rep.tup [.int .i64 n,.any] #[.int .i64 n,v] (fun _ => []) rfl fun i hi => by
    match i,hi with
    | 0,_ => exact .int _ _
    | 1,_ => exact .any _
  cases hx : Lib.atoiAll s.data.toList
  ·rw [hx] at h
   dsimp only at h
   split at h
   ·rename_i hd
    cases h
    refine LCalls.belowX (vals := [.string s]) (I := fun _ => True) rfl (fun _ _ => trivial) fun w _ => ?_
    refine (Any.strconv_Atoi_ok Tryz.laysC172 s (of_decide_eq_true hd) _ hx w).mono ?_
    rintro e w' ⟨he,hw⟩
    refine ⟨⟨_,he,fun c => Rep.tup _ _ (fun _ => []) rfl fun i hi => ?_⟩,?_⟩
    ·match i,hi with
     | 0,_ => exact .int _ _
     | 1,_ => exact .nili
    ·rcases hw with rfl | ⟨t,rfl⟩
     ·exact RowKit.Below.refl _ _
     ·exact Joins.below_bytesWorld _ _ _ _ (Nat.le_refl _)
   ·cases h
  ·have hv : atoiV s = 0 := by unfold atoiV; rw [hx]
   rw [hx] at h
   dsimp only at h
   split at h
   ·rename_i hd
    cases h
    obtain ⟨⟨id,e,fz,tp,p,h1⟩,h2,h3⟩ : H.AtoiErr S s := @of_decide_eq_true _ (Classical.propDecidable _) hd
    rw [hv]
    refine LCalls.belowX (vals := [.string s]) (I := fun w => w.heap[H.errG]? = some (.cells #[.iface tp p] e fz)) rfl (fun c hs => glob_heap h1 hs) fun w hh => ?_
    refine (Any.strconv_Atoi_syntax_var Tryz.laysC172 s h3 hx tp p w (by unfold World.var?; rw [H.errG_eq]; simp only [Option.bind_some,hh])).mono ?_
    rintro e w' ⟨N,he,-,-,hb⟩
    exact ⟨⟨_,he,fun c => two c _ _⟩,hb⟩
   ·cases h
  ·have hv : atoiV s = Lib.atoiSat s.data.toList := by unfold atoiV; rw [hx]
   rw [hx] at h
   dsimp only at h
   split at h
   ·rename_i hd
    cases h
    obtain ⟨h1,⟨id,e,fz,tp,p,h2⟩,h3⟩ : H.AtoiErr S s := @of_decide_eq_true _ (Classical.propDecidable _) hd
    rw [hv]
    refine LCalls.belowX (vals := [.string s]) (I := fun w => w.heap[H.rngG]? = some (.cells #[.iface tp p] e fz)) rfl (fun c hs => glob_heap h2 hs) fun w hh => ?_
    refine (Any.strconv_Atoi_range_var Tryz.laysC172 s h3 hx tp p w (by unfold World.var?; rw [H.rngG_eq]; simp only [Option.bind_some,hh])).mono ?_
    rintro e w' ⟨N,he,-,-,hb⟩
    exact ⟨⟨_,he,fun c => two c _ _⟩,hb⟩
   ·cases h
abbrev H.indexFunc.ps (g : FuncId) : Mk := [some (.lf .str),some (.fn g []),some (.lf .bool)]
abbrev H.indexFunc.rs : Mk := [some (.lf (.int .i64))]
def H.indexFuncOk (hd : Hd Bool) : Prop := ∀ x,x ≤ 1114111 → predA hd x ≠ none
noncomputable def idxFF (hd : Hd Bool) (x : ByteArray × Unit × Bool × Unit) : Option (Int × Unit) := match (Classical.propDecidable (H.indexFuncOk hd)).decide with
 | true => some (Lib.idxFunc (fun x => (predA hd x).getD false) x.2.2.1 x.1,())
 | false => none
noncomputable def H.indexFunc.fn (hd : Hd Bool) (g : FuncId) (x : ByteArray × Unit × Bool × Unit) (S : List LV) (K : Int × Unit → List LV → Option R) : Option R := handF (H.indexFunc.ps g) H.indexFunc.rs (idxFF hd) x S K
theorem H.indexFunc.ok {g : FuncId} {hd : Hd Bool} (hs : HSound Tryz.prog g hd) (hen : Enters Tryz.prog g) : HSound Tryz.prog 201 (hT (R := R) (H.indexFunc.ps g) fun x S K => H.indexFunc.fn hd g x S fun r S => K (resE H.indexFunc.rs r) S) :=
 hand_ok (enters_ok Tryz.func201 (by kernel_rfl) (by kernel_rfl)) (ps := H.indexFunc.ps g) (rs := H.indexFunc.rs) (g := idxFF hd) fun x r S hr => by
  obtain ⟨s,u1,t,u⟩ := x
  unfold idxFF at hr
  split at hr
  ·rename_i hd1
   cases hr
   have hp : H.indexFuncOk hd := @of_decide_eq_true _ (Classical.propDecidable _) hd1
   refine LCalls.of fun c vs o hl hrep hbd => ?_
   obtain ⟨v0,v1,v2,rfl⟩ : ∃ v0 v1 v2,vs = [v0,v1,v2] := by
    match vs,hl with
    | [v0,v1,v2],_ => exact ⟨v0,v1,v2,rfl⟩
   have e0 : v0 = .string s := rep_str (hrep 0 (show 0 < 3 by decide))
   have e2 : v2 = .bool t := rep_bool (hrep 2 (show 2 < 3 by decide))
   have e1 : v1 = .func (.func g) #[] #[] := by
    have h1 : Rep c (.fn g []) v1 (o 1) := hrep 1 (show 1 < 3 by decide)
    generalize o 1 = O at h1
    cases h1 with
    | fn _ _ cs hs _ =>
     have : cs = #[] := Array.eq_empty_of_size_eq_zero (by simpa using hs)
     subst this; rfl
   subst e0; subst e1; subst e2
   refine (Any.strings_indexFunc_grows Tryz.lays315 g #[] hen (fun x => (predA hd x).getD false) t s c.w (fun W x hx _ => ?_)).mono ?_
   ·cases hb : predA hd x with
    | none => exact absurd hb (hp x hx)
    | some b =>
     show Calls _ g #[.int .i32 (x : Int)] W fun e w' => e = .returned (.bool ((predA hd x).getD false)) ∧ RowKit.Below W.heap.size W w'
     rw [hb]
     exact pred_of hs hb W
   ·rintro e w' ⟨he,hb⟩
    exact ⟨{ c with w := w' },_,[],he,rfl,⟨Nat.le_refl _,fun _ _ => rfl,fun _ _ h => h,fun b o h => World.cell?_of_block (w := c.w) (hb.block b (hbd b o h)),hb.size,fun b hlt _ => hb.block b hlt,fun _ _ _ _ h => h,(fun _ _ _ _ h _ => False.elim h),hb.os,hb.tape,hb.output⟩,
     .int _ _,List.nodup_nil,by simp,rfl,fun b p h => Nat.lt_of_lt_of_le (hbd b p h) hb.size⟩
  ·cases hr
end
end Go.Lm
namespace Go.Lm
section
variable {R : Type} {P : Program}
theorem grow_world {w : World} {b : Nat} {ty e : TypeId} {cs : Array Value} {p q x y : Value} (hb : w.heap[b]? = some (.cells #[p,q] ty (0,0))) :
  (((w.setCell ⟨b,0,none⟩ x).alloc (.cells cs e)).setCell ⟨b,1,none⟩ y).drew.drew.drew.drew = ((w.alloc (.cells cs e)).drew.drew.drew.drew).setRow b #[x,y] := by
 have hlt : b < w.heap.size := (Array.getElem?_eq_some_iff.1 hb).1
 have h1 : w.setCell ⟨b,0,none⟩ x = w.setRow b #[x,q] := by
  rw [setCell_eq_setRow w b 0 #[p,q] ty (0,0) x hb]; rfl
 rw [h1]
 have h2 : (w.setRow b #[x,q]).heap[b]? = some (.cells #[x,q] ty (0,0)) := setRow_heap w b _ _ _ _ hb
 have hs : (w.setRow b #[x,q]).heap.size = w.heap.size := by simp [World.setRow]
 have h3 : ((w.setRow b #[x,q]).alloc (.cells cs e)).heap[b]? = some (.cells #[x,q] ty (0,0)) := by
  rw [← h2]
  exact Array.getElem?_push_lt (by omega) |>.trans (by rw [Array.getElem?_eq_getElem (by omega)])
 have h4 : ((w.setRow b #[x,q]).alloc (.cells cs e)).setCell ⟨b,1,none⟩ y = ((w.setRow b #[x,q]).alloc (.cells cs e)).setRow b #[x,y] := by
  rw [setCell_eq_setRow _ b 1 #[x,q] ty (0,0) y h3]; rfl
 rw [h4]
 have h5 : (((w.setRow b #[x,q]).alloc (.cells cs e)).setRow b #[x,y]).heap = ((w.alloc (.cells cs e)).setRow b #[x,y]).heap := by
  apply Array.ext_getElem?
  intro i
  by_cases hi : i = b
  ·subst hi
   have h6 : (w.alloc (.cells cs e)).heap[i]? = some (.cells #[p,q] ty (0,0)) := by
    rw [← hb]
    exact Array.getElem?_push_lt hlt |>.trans (by rw [Array.getElem?_eq_getElem hlt])
   rw [setRow_heap _ _ _ _ _ _ h3,setRow_heap _ _ _ _ _ _ h6]
  ·rw [setRow_other _ _ _ _ hi,setRow_other _ _ _ _ hi]
   show ((w.setRow b #[x,q]).heap.push _)[i]? = (w.heap.push _)[i]?
   rw [Array.getElem?_push,Array.getElem?_push,hs,setRow_other _ _ _ _ hi]
 exact congrArg (fun h => ({ heap := h,tape := w.tape,drawn := w.drawn + 1 + 1 + 1 + 1,os := w.os,output := w.output } : World)) h5
theorem LCalls.grow {f : FuncId} {S : List LV} {id ty e n : Nat} (hS : S.getD id .any = .obj ty [.nilp,.nilsl])
  (h : ∀ (b : Nat) (w : World),w.heap[b]? = some (.cells #[.pointer none,.slice none 0 0] ty (0,0)) → Calls P f #[.pointer (some ⟨b,0,none⟩),.int .i64 n] w fun en w' => en = .returned (.tuple #[]) ∧ ∃ cs : Array Value,cs.size ≤ 9223372036854775807 ∧ (∀ p,p < cs.size → (cs.getD p undef).oneCell' = true) ∧
   w' = (((w.setCell ⟨b,0,none⟩ (.pointer (some ⟨b,0,none⟩))).alloc (.cells cs e)).setCell ⟨b,1,none⟩ (.slice (some ⟨w.heap.size,0,none⟩) 0 cs.size)).drew.drew.drew.drew) : LCalls P f [.ptr id 0,.int .i64 n] S (.tup []) (S.set id (.obj ty [.ptr id 0,.own e 1 []])) := by
 intro c vs o hvl hvr hsto hsep hlt
 have hr := LCalls.enter hvl hvr hsto hsep hlt
 have r0 := hvr 0 (by simp)
 have r1 := hvr 1 (by simp)
 simp only [List.getD_cons_zero,List.getD_cons_succ] at r0 r1
 obtain ⟨hid,hv,-⟩ := rep_ptr r0
 have hv1 := rep_int r1
 obtain rfl : vs = [.pointer (some ⟨c.ι id,0,none⟩),.int .i64 n] := by
  cases vs with
  | nil => simp at hvl
  | cons v vs =>
   cases vs with
   | nil => simp at hvl
   | cons v2 vs =>
    cases vs with
    | nil => simp only [List.getD_cons_zero,List.getD_cons_succ] at hv hv1; rw [hv,hv1]
    | cons => simp at hvl
 obtain ⟨_,cur,os,hO,_,hh,hI,ho1,hrep,hs⟩ := hr.obj (.inl rfl) hS
 replace hs := hs rfl
 have hcur : cur = #[.pointer none,.slice none 0 0] := by
  have h0 := hrep 0 (by simp)
  have h1 := hrep 1 (by simp)
  simp only [List.getD_cons_zero,List.getD_cons_succ] at h0 h1
  obtain ⟨l⟩ := cur
  match l,hs with
  | [a,b],_ =>
   have e0 : (#[a,b] : Array Value).getD 0 undef = a := rfl
   have e1 : (#[a,b] : Array Value).getD 1 undef = b := rfl
   rw [e0] at h0
   rw [e1] at h1
   generalize os 0 = O0 at h0
   generalize os 1 = O1 at h1
   cases h0; cases h1; rfl
 subst hcur
 refine (h (c.ι id) c.w hh).mono ?_
 rintro en w'' ⟨he,cs,hcs,hone,hw⟩
 rw [grow_world hh] at hw
 obtain ⟨o1,h1⟩ := hr.noFly
 obtain ⟨o2,h2⟩ := h1.fly1 (Rep.ptr (c := c) id 0 hid)
 obtain ⟨c',o3,hc',h3⟩ := h2.fresh' ((c.w.alloc (.cells cs e)).drew.drew.drew.drew) (fun k hk => Array.getElem?_push_lt hk |>.trans (by rw [Array.getElem?_eq_getElem hk])) (by show (c.w.heap.push _).size = _; simp) rfl rfl rfl (fun _ => False)
  (x := .own e 1 []) (v := .slice (some ⟨c.w.heap.size,0,none⟩) 0 cs.size) (fun c' hw' hext hI' => ⟨[c.w.heap.size],.inr rfl,.own e 1 c.w.heap.size cs.size [] cs (Nat.zero_le _) hcs (by rw [hw']; exact Array.getElem?_push_size) (by omega) (fun p => by rw [hI' p]; simp) hone (fun p hp => by simp at hp)⟩)
 obtain ⟨w2,hst,hrel⟩ := h3.land (P := P) (id := id) (p := 0) (.inl rfl) hS (by simp) (fun u hu => by
  simp only [List.nil_append,List.cons_append,List.mem_cons,List.not_mem_nil,or_false] at hu
  rcases hu with rfl | rfl <;> rfl) rfl
 have hι : c'.ι id = c.ι id := h3.ext.ι id hid
 have hlt' : c.ι id < c.w.heap.size := (Array.getElem?_eq_some_iff.1 hh).1
 have hh' : c'.w.heap[c'.ι id]? = some (.cells #[.pointer none,.slice none 0 0] ty (0,0)) := by
  rw [hc',hι,← hh]
  exact Array.getElem?_push_lt hlt' |>.trans (by rw [Array.getElem?_eq_getElem hlt'])
 have hst2 := run_storeCells_at P (c'.ι id) 0 ty [.pointer (some ⟨c.ι id,0,none⟩),.slice (some ⟨c.w.heap.size,0,none⟩) 0 cs.size] 0 _ c'.w hh' (by simp) (fun u hu => by
  simp only [List.mem_cons,List.not_mem_nil,or_false] at hu
  rcases hu with rfl | rfl <;> rfl)
 rw [show ([] ++ [Value.pointer (some ⟨c.ι id,0,none⟩)] ++ [Value.slice (some ⟨c.w.heap.size,0,none⟩) 0 cs.size]) = [.pointer (some ⟨c.ι id,0,none⟩),.slice (some ⟨c.w.heap.size,0,none⟩) 0 cs.size] from rfl] at hst
 rw [hst2] at hst
 have hw2 : w2 = w'' := by
  cases hst
  rw [hw,hc',hι]
  rfl
 subst hw2
 exact LCalls.leave (c' := { c' with w := w2 }) rfl he rfl (Rep.tup [] #[] (fun _ => []) rfl (fun i hi => by simp at hi)) hrel
end
end Go.Lm
namespace Go.Lm
open Go.RowKit
section
variable {R : Type} {P : Program}
theorem rigids_get : ∀ {xs : List LV} {us : List Value},rigids xs = some us → us.length = xs.length ∧ ∀ i,i < xs.length → rigid (xs.getD i .any) = some (us.getD i undef)
 | [],us,h => by cases h; exact ⟨rfl,fun i hi => by simp at hi⟩
 | x :: xs,us,h => by
  simp only [rigids] at h
  split at h
  ·rename_i v vs h1 h2
   cases h
   obtain ⟨e,ih⟩ := rigids_get h2
   refine ⟨by simp [e],fun i hi => ?_⟩
   cases i with
   | zero => simpa using h1
   | succ i => simpa using ih i (by simpa using hi)
  ·cases h
theorem rigid_one {x : LV} {v : Value} (h : rigid x = some v) : v.oneCell' = true ∧ leaf x 0 = x := by
 cases x <;> simp only [rigid] at h <;> first | (cases h; exact ⟨rfl,rfl⟩) | cases h
theorem LCalls.sorted {f g : FuncId} {S : List LV} {id m ty e : Nat} {kd : KD} {kvs : List (LV × LV)} {xs : List LV} {us : List Value} (h1 : S.getD id .any = .obj ty [.map m]) (h2 : S.getD m .any = .mp kd kvs) (hx : rigids xs = some us) (hn : xs.length ≤ 9223372036854775807)
  (h : ∀ (w : World) (b gm : Nat) (es : Array MapEntry) (clock : Nat),w.cell? ⟨b,0,none⟩ = some (.map (some gm)) → b < w.heap.size → w.heap[gm]? = some (.map es clock) → MapKept.Stamped es clock → es.size = kvs.length →
   (∀ i,i < kvs.length → rigid (kvs.getD i (.any,.any)).1 = some (es.getD i ⟨undef,undef,0⟩).key ∧ keyOk kd (kvs.getD i (.any,.any)).1 = true) →
   Calls P f #[.func (.func g) #[] #[.pointer (some ⟨b,0,none⟩)]] w fun en w' => ∃ v,en = .returned v ∧ w'.ownsRow w.heap.size e 1 v xs.length us ∧ Below w.heap.size w w') :
  LCalls P f [.fn g [.ptr id 0]] S (.sl 1 xs) S := by
 refine LCalls.ofS fun c vs o hvl hvr hbd hsto => ?_
 have r0 := hvr 0 (by simp)
 simp only [List.getD_cons_zero] at r0
 have hvs : vs = [.func (.func g) #[] #[.pointer (some ⟨c.ι id,0,none⟩)]] := by
  cases vs with
  | nil => simp at hvl
  | cons v vs =>
   cases vs with
   | nil =>
    simp only [List.getD_cons_zero] at r0
    generalize o 0 = O at r0
    cases r0 with
    | fn _ _ cs hs hr =>
     have hr0 := hr 0 (by simp)
     simp only [List.getD_cons_zero] at hr0
     obtain ⟨_,hv,_⟩ := rep_ptr hr0
     have hs1 : cs.size = 1 := by simpa using hs
     have : cs = #[.pointer (some ⟨c.ι id,0,none⟩)] := by
      apply Array.ext
      ·simp [hs1]
      ·intro j hj1 hj2
       have hj : j = 0 := by omega
       subst hj
       simpa [Array.getD_eq_getD_getElem?,hj1] using hv
     rw [this]
   | cons => simp at hvl
 subst hvs
 have hid1 := getD_lt h1 (by simp)
 have hid2 := getD_lt h2 (by simp)
 obtain ⟨O1,s1⟩ := hsto id hid1
 obtain ⟨O2,s2⟩ := hsto m hid2
 rw [h1] at s1
 rw [h2] at s2
 simp only [oval] at s1 s2
 generalize hb : c.ι id = b at s1
 generalize hg : c.ι m = gm at s2
 cases s1 with
 | obj _ _ _ cur os hs hh hI ho1 hrep =>
 cases s2 with
 | mp _ _ _ es clock hh2 hst hs2 hk hI2 hr2 =>
 have hs : cur.size = 1 := hs
 have hc0 : c.w.cell? ⟨b,0,none⟩ = some (.map (some gm)) := by
  have h3 := hrep 0 (by simp)
  simp only [List.getD_cons_zero] at h3
  have h0 : 0 < cur.size := by omega
  generalize hz : cur.getD 0 undef = z at h3
  generalize os 0 = O0 at h3
  cases h3
  rw [hg] at hz
  simp [World.cell?,hh]
  simpa [Array.getD_eq_getD_getElem?,h0] using hz
 refine (h c.w b gm es clock hc0 (Array.getElem?_eq_some_iff.1 hh).1 hh2 hst hs2 hk).mono ?_
 rintro en w' ⟨v,he,⟨hl,hrow⟩,hbl⟩
 obtain ⟨hul,hur⟩ := rigids_get hx
 have hsize := hbl.size
 rcases hrow with ⟨rfl,h0⟩ | ⟨g0,cap,cur2,rfl,hg0,hh0,hn0,hcap,hsz,htk⟩
 ·have : xs = [] := List.eq_nil_of_length_eq_zero h0
  subst this
  exact ⟨{ c with w := w' },_,[],he,rfl,⟨Nat.le_refl _,fun _ _ => rfl,fun _ _ h => h,fun b o h => World.cell?_of_block (hbl.block b (hbd b o h)),hbl.size,fun b hlt _ => hbl.block b hlt,fun _ _ _ _ h => h,(fun _ _ _ _ h _ => False.elim h),hbl.os,hbl.tape,hbl.output⟩,
   .sl0 1 none 0 (fun _ => rfl),List.nodup_nil,by simp,rfl,fun b p h => Nat.lt_of_lt_of_le (hbd b p h) hbl.size⟩
 ·have hglt := (Array.getElem?_eq_some_iff.1 hh0).1
  let c' : Cx := { c with I := fun b p => c.I b p ∨ (b = g0 ∧ p < xs.length),w := w' }
  have hcell : ∀ p,p < xs.length → p < cur2.size ∧ cur2.getD p undef = us.getD p undef := fun p hp => by
   have hp2 : p < cur2.size := by rw [hsz]; omega
   refine ⟨hp2,?_⟩
   have : (cur2.toList.take (xs.length * 1))[p]? = us[p]? := by rw [htk]
   rw [List.getElem?_take,if_pos (by omega)] at this
   simp only [List.getD_eq_getElem?_getD,Array.getD_eq_getD_getElem?,← this,Array.getElem?_toList]
  refine ⟨c',_,[],he,rfl,⟨Nat.le_refl _,fun _ _ => rfl,fun _ _ h => .inl h,fun b o h => World.cell?_of_block (hbl.block b (hbd b o h)),hbl.size,fun b hlt _ => hbl.block b hlt,fun b p hlt _ hp => by
    rcases hp with hp | hp
    ·exact hp
    ·omega,(fun _ _ _ _ h _ => False.elim h),hbl.os,hbl.tape,hbl.output⟩,
   .sl 1 g0 0 cap xs (fun p => cur2.getD p undef) hn0 hn (fun p hp => ?_) (fun p hp => .inr ⟨rfl,by omega⟩) (fun p hp => ?_) (fun p hp => ?_),List.nodup_nil,by simp,rfl,fun b p hp => ?_⟩
  ·obtain ⟨hp2,_⟩ := hcell p (by omega)
   show w'.cell? _ = _
   simp [World.cell?,hh0,hp2,Array.getD_eq_getD_getElem?]
  ·obtain ⟨_,e1⟩ := hcell p (by omega)
   rw [e1]; exact (rigid_one (hur p (by omega))).1
  ·obtain ⟨_,e1⟩ := hcell p (by omega)
   have h3 := hur p (by omega)
   rw [Nat.div_one,Nat.mod_one,(rigid_one h3).2,e1]
   exact rigid_mk h3
  ·rcases hp with hp | ⟨rfl,_⟩
   ·exact Nat.lt_of_lt_of_le (hbd b p hp) hbl.size
   ·exact hglt
def keyS : LV → List UInt8
 | .str s => s.data.toList
 | _ => []
def keyI : LV → Int
 | .int _ n => n
 | _ => 0
def sortS (kvs : List (LV × LV)) : List (List UInt8) := (kvs.map fun kv => keyS kv.1).mergeSort fun x y => decide (x ≤ y)
def sortI (kvs : List (LV × LV)) : List Int := (kvs.map fun kv => keyI kv.1).mergeSort fun x y => decide (x ≤ y)
def R0 : Value → Option (DataW Unit × List MemPlace) := fun _ => some (.nil,[])
theorem map_getD_idx {α β : Type} {f : α → β} {l : List α} {m : List β} {d : α} {e : β} (hl : m.length = l.length) (h : ∀ i,i < l.length → m.getD i e = f (l.getD i d)) : m = l.map f := by
 apply List.ext_getElem?
 intro i
 rcases Nat.lt_or_ge i l.length with h1 | h1
 ·have := h i h1
  have h2 : i < m.length := by omega
  simp only [List.getD_eq_getElem?_getD,List.getElem?_eq_getElem h1,List.getElem?_eq_getElem h2,Option.getD_some] at this
  simp [List.getElem?_eq_getElem h1,List.getElem?_eq_getElem h2,this]
 ·have h2 : m.length ≤ i := by omega
  simp [List.getElem?_eq_none h1,List.getElem?_eq_none h2]
theorem own_keys {w : World} {gm clock : Nat} {es : Array MapEntry} {kvs : List (LV × LV)} {k : TypeId} (hh : w.heap[gm]? = some (.map es clock)) (hst : MapKept.Stamped es clock) (hs : es.size = kvs.length) (hm : kvs.length ≤ maxLen)
  (lit : LV → Lit) (hk : ∀ i,i < kvs.length → keyOf P k (es.getD i ⟨undef,undef,0⟩).key = some (lit (kvs.getD i (.any,.any)).1)) :
  ∃ D0 : List (Lit × DataW Unit),w.ownsMap P k R0 gm es.size (.map D0) ∧ (D0.map Prod.fst).Perm (kvs.map fun kv => lit kv.1) := by
 have hrd : ∀ x ∈ es.toList,∃ l,WideElems.rd P k R0 x = some (l,.nil) ∧ keyOf P k x.key = some l := fun x hx => by
  obtain ⟨i,hi,rfl⟩ := List.mem_iff_getElem.1 hx
  have hi' : i < es.size := by simpa using hi
  have := hk i (by omega)
  simp only [Array.getD_eq_getD_getElem?,Array.getElem?_eq_getElem hi',Option.getD_some] at this
  rw [Array.getElem_toList]
  exact ⟨_,by simp [WideElems.rd,this,R0],this⟩
 refine ⟨(es.toList.map (WideElems.rg P k R0)).foldr DataW.insert [],World.ownsMap_of_fit hh ⟨by rw [hs]; exact hm,hst,fun x hx => by obtain ⟨l,h1,_⟩ := hrd x hx; exact ⟨_,h1⟩⟩ (fun _ _ _ h => h),?_⟩
 refine ((WideShapes.sorted_perm _).map Prod.fst).trans ?_
 rw [List.map_map]
 have : es.toList.map (Prod.fst ∘ WideElems.rg P k R0) = kvs.map fun kv => lit kv.1 := by
  refine map_getD_idx (d := (.any,.any)) (e := .bool false) (by simp [hs]) fun i hi => ?_
  have hi' : i < es.size := by omega
  have h2 : (WideElems.rg P k R0 es[i]).1 = lit (kvs.getD i (.any,.any)).1 := by
   obtain ⟨l,h1,h3⟩ := hrd es[i] (by simp [Array.getElem_mem])
   have := hk i hi
   simp only [Array.getD_eq_getD_getElem?,Array.getElem?_eq_getElem hi',Option.getD_some] at this
   rw [h3] at this
   cases this
   rw [WideElems.rg_of h1]
  simp [List.getD_eq_getElem?_getD,hi',h2]
 rw [this]
theorem sort_perm {α : Type} {r : α → α → Prop} [DecidableRel r] (ht : ∀ a b c,r a b → r b c → r a c) (ho : ∀ a b,r a b ∨ r b a) (ha : ∀ a b,r a b → r b a → a = b) {l l' : List α} (h : l.Perm l') : l.mergeSort (fun x y => decide (r x y)) = l'.mergeSort (fun x y => decide (r x y)) := by
 have hs : ∀ l : List α,(l.mergeSort (fun x y => decide (r x y))).Pairwise r := fun l =>
  (List.pairwise_mergeSort (le := fun x y => decide (r x y)) (fun a b c h1 h2 => by simp only [decide_eq_true_eq] at *; exact ht a b c h1 h2) (fun a b => by simpa using ho a b) l).imp fun h => by simpa using h
 refine List.Perm.eq_of_pairwise (le := r) (fun a b _ _ h1 h2 => ha a b h1 h2) (hs l) (hs l') ?_
 exact (List.mergeSort_perm _ _).trans (h.trans (List.mergeSort_perm _ _).symm)
end
end Go.Lm
set_option maxRecDepth 100000
namespace Go.Lm
open Go.Proofs Go.RowKit Go.Maps Go.Sort Go.Shelf
section
variable {R : Type}
theorem pk_len {kvs : List (LV × LV)} {D0 : List (Lit × DataW Unit)} {lit : LV → Lit} (h : (D0.map Prod.fst).Perm (kvs.map fun kv => lit kv.1)) : D0.length = kvs.length := by
 have := h.length_eq
 simpa using this
theorem H.sortsS (m : Nat) : AnyZ.SortsIn Tryz.prog Tryz.sortedS_ren Fence.wide m :=
 ⟨fun blk off cap ss W hH hblk hsz => callsIn_wide.2 (AnyM.slices_Sort_string Tryz.sortS blk off cap ss W hH hblk hsz),fun p cap W => callsIn_wide.2 (AnyM.slices_Sort_string_none Tryz.sortS p cap W)⟩
def H.keySok (kvs : List (LV × LV)) : Bool := decide (kvs.length * 16 ≤ 140737488355328) && kvs.all fun kv => decide ((keyS kv.1).length ≤ 9223372036854775807)
theorem H.sortedS_calls {kvs : List (LV × LV)} (hok : H.keySok kvs = true) (w : World) (b gm : Nat) (es : Array MapEntry) (clock : Nat) (hc : w.cell? ⟨b,0,none⟩ = some (.map (some gm))) (hb : b < w.heap.size) (hh : w.heap[gm]? = some (.map es clock)) (hst : MapKept.Stamped es clock) (hs : es.size = kvs.length)
  (hk : ∀ i,i < kvs.length → rigid (kvs.getD i (.any,.any)).1 = some (es.getD i ⟨undef,undef,0⟩).key ∧ keyOk .str (kvs.getD i (.any,.any)).1 = true) :
  Calls Tryz.prog 44 #[.func (.func 74) #[] #[.pointer (some ⟨b,0,none⟩)]] w fun en w' => ∃ v,en = .returned v ∧ w'.ownsRow w.heap.size 9 1 v ((sortS kvs).map fun l => LV.str ⟨l.toArray⟩).length ((sortS kvs).map encStr) ∧ Below w.heap.size w w' := by
 simp only [H.keySok,Bool.and_eq_true,decide_eq_true_eq,List.all_eq_true] at hok
 have hml : kvs.length ≤ maxLen := by unfold maxLen; omega
 have hkey : ∀ i,i < kvs.length → keyOf Tryz.prog 9 (es.getD i ⟨undef,undef,0⟩).key = some ((fun x => Lit.string (keyS x)) (kvs.getD i (.any,.any)).1) := fun i hi => by
  obtain ⟨h1,h2⟩ := hk i hi
  have hm : kvs.getD i (.any,.any) ∈ kvs := by simp [List.getD_eq_getElem?_getD,hi]
  have h3 := hok.2 _ hm
  generalize (kvs.getD i (.any,.any)).1 = x at h1 h2 h3
  cases x <;> simp only [keyOk] at h2 <;> try (cases h2; done)
  rename_i s
  simp only [rigid,Option.some.injEq] at h1
  rw [← h1]
  exact WideMaps.keyOf_string_mk (by kernel_rfl) (by unfold maxLen; simpa [keyS] using h3)
 obtain ⟨D0,hown,hperm⟩ := own_keys (k := 9) hh hst hs hml (fun x => Lit.string (keyS x)) hkey
 have hlen := pk_len (lit := fun x => Lit.string (keyS x)) hperm
 have hks : (strKeys (DataW.map D0)).Perm (kvs.map fun kv => keyS kv.1) := by
  have h := hperm.map Go.strOf
  simp only [List.map_map] at h
  exact h
 have hseq : SeqGives Fence.wide 2 Tryz.prog 74 #[.pointer (some ⟨b,0,none⟩)] encStr (fun ss => ss.Perm (strKeys (DataW.map D0))) (Maps.size (DataW.map D0)) w :=
  AnyZ.keys_gives (ρ := Tryz.keysS_ren) { Tryz.keysS with } Fence.wide _ trivial rfl (by omega) b gm es.size (DataW.map D0) w hb hc hown
 have cS := AnyZ.sorted_in Tryz.sortedS Fence.wide 5 trivial trivial trivial trivial rfl (by omega) (H.sortsS _) (enters_of Tryz.func73 (by kernel_rfl) rfl) 74 #[.pointer (some ⟨b,0,none⟩)] trivial (enters_of Tryz.func74 (by kernel_rfl) rfl) _ _
  (by show D0.length ≤ _; rw [hlen]; exact hml) (by show D0.length * 16 ≤ _; rw [hlen]; exact hok.1) w hseq
 change CallsIn _ _ Tryz.prog 44 _ _ _ at cS
 refine ((callsIn_wide (n := 5)).1 cS).mono ?_
 rintro e w' ⟨v,ss,rfl,hS,hrow,_,hb⟩
 have e1 : ss.mergeSort (fun x y => decide (x ≤ y)) = sortS kvs := sort_perm (r := fun x y : List UInt8 => x ≤ y) (fun _ _ _ => List.le_trans) List.le_total (fun _ _ => List.le_antisymm) (hS.trans hks)
 have e2 : ss.length = ((sortS kvs).map fun l => LV.str ⟨l.toArray⟩).length := by rw [List.length_map,← e1,List.length_mergeSort]
 rw [e1,e2] at hrow
 exact ⟨v,rfl,hrow,hb⟩
abbrev H.SortedS.ps : Mk := [some (.fn 74 [.ptr])]
abbrev H.SortedS.rs : Mk := [some (.lf (.sl 1))]
def sortedSF (S : List LV) (x : ((Nat × Nat) × Unit) × Unit) : Option ((List LV × Unit) × List LV) := match S.getD x.1.1.1 .any with
 | .obj _ [.map m] => (match S.getD m .any with
  | .mp .str kvs => (match Nat.beq x.1.1.2 0 && H.keySok kvs with
   | true => some (((sortS kvs).map fun l => LV.str ⟨l.toArray⟩,()),S)
   | false => none)
  | _ => none)
 | _ => none
def H.SortedS.fn (_k : Nat) (x : ((Nat × Nat) × Unit) × Unit) (S : List LV) (K : List LV × Unit → List LV → Option R) : Option R := match sortedSF S x with | some r => K r.1 r.2 | none => none
def H.SortedS.h (k : Nat) : Hd R := hT H.SortedS.ps fun x S K => H.SortedS.fn k x S fun r S => K (resE H.SortedS.rs r) S
theorem rigids_strL : ∀ l : List (List UInt8),rigids (l.map fun b => LV.str ⟨b.toArray⟩) = some (l.map encStr)
 | [] => rfl
 | b :: l => by simp only [List.map_cons,rigids,rigid,rigids_strL l,encStr]
theorem H.SortedS.calls {S S' : List LV} {x : ((Nat × Nat) × Unit) × Unit} {r : List LV × Unit} (h : sortedSF S x = some (r,S')) : LCalls Tryz.prog 44 (H.SortedS.ps.enc x) S (resE H.SortedS.rs r) S' := by
 obtain ⟨⟨⟨id,p⟩,u⟩,u2⟩ := x
 unfold sortedSF at h
 split at h
 ·rename_i ty m hS1
  split at h
  ·rename_i kvs hS2
   split at h
   ·rename_i hb
    rw [Bool.and_eq_true] at hb
    have e1 : p = 0 := Nat.eq_of_beq_eq_true hb.1
    subst e1
    cases h
    refine LCalls.sorted (e := 9) hS1 hS2 (rigids_strL _) ?_ fun w b gm es clock h1 h2 h3 h4 h5 h6 => H.sortedS_calls hb.2 w b gm es clock h1 h2 h3 h4 h5 h6
    have := hb.2
    simp only [H.keySok,Bool.and_eq_true,decide_eq_true_eq] at this
    simp only [List.length_map,sortS,List.length_mergeSort]; omega
   ·cases h
  ·cases h
 ·cases h
theorem H.SortedS.ok (k : Nat) : HSound Tryz.prog 44 (H.SortedS.h (R := R) k) :=
 hand_okS (enters_ok Tryz.func44 (by kernel_rfl) (by kernel_rfl)) (ps := H.SortedS.ps) (rs := H.SortedS.rs) (g := sortedSF) (fun S x K => by unfold H.SortedS.fn; cases sortedSF S x <;> rfl) fun x S r S' h => H.SortedS.calls h
theorem H.sortsI (m : Nat) : AnyZI.SortsIn Tryz.prog Tryz.sortedI_ren Fence.wide m :=
 ⟨fun blk off cap ss W hH hblk hsz => callsIn_wide.2 (AnyM.slices_Sort_int Tryz.sortI blk off cap ss W hH hblk hsz),fun p cap W => callsIn_wide.2 (AnyM.slices_Sort_int_none Tryz.sortI p cap W)⟩
def H.keyIok (kvs : List (LV × LV)) : Bool := decide (kvs.length * 8 ≤ 140737488355328) && kvs.all fun kv => decide (-9223372036854775808 ≤ keyI kv.1 ∧ keyI kv.1 ≤ 9223372036854775807)
theorem H.sortedI_calls {kvs : List (LV × LV)} (hok : H.keyIok kvs = true) (w : World) (b gm : Nat) (es : Array MapEntry) (clock : Nat) (hc : w.cell? ⟨b,0,none⟩ = some (.map (some gm))) (hb : b < w.heap.size) (hh : w.heap[gm]? = some (.map es clock)) (hst : MapKept.Stamped es clock) (hs : es.size = kvs.length)
  (hk : ∀ i,i < kvs.length → rigid (kvs.getD i (.any,.any)).1 = some (es.getD i ⟨undef,undef,0⟩).key ∧ keyOk (.int .i64) (kvs.getD i (.any,.any)).1 = true) :
  Calls Tryz.prog 51 #[.func (.func 80) #[] #[.pointer (some ⟨b,0,none⟩)]] w fun en w' => ∃ v,en = .returned v ∧ w'.ownsRow w.heap.size 3 1 v ((sortI kvs).map fun n => LV.int .i64 n).length ((sortI kvs).map encZ) ∧ Below w.heap.size w w' := by
 simp only [H.keyIok,Bool.and_eq_true,decide_eq_true_eq,List.all_eq_true] at hok
 have hml : kvs.length ≤ maxLen := by unfold maxLen; omega
 have hkey : ∀ i,i < kvs.length → keyOf Tryz.prog 3 (es.getD i ⟨undef,undef,0⟩).key = some ((fun x => Lit.int .i64 (keyI x)) (kvs.getD i (.any,.any)).1) := fun i hi => by
  obtain ⟨h1,h2⟩ := hk i hi
  have hm : kvs.getD i (.any,.any) ∈ kvs := by simp [List.getD_eq_getElem?_getD,hi]
  have h3 := hok.2 _ hm
  generalize (kvs.getD i (.any,.any)).1 = x at h1 h2 h3
  cases x <;> simp only [keyOk] at h2 <;> try (cases h2; done)
  rename_i k s
  have := ikN_inj h2
  subst this
  simp only [rigid,Option.some.injEq] at h1
  rw [← h1]
  exact keyOf_int_mk (by kernel_rfl) (by
   simp only [keyI] at h3
   simp only [Lit.wf,IntKind.min,IntKind.max,IntKind.bits,IntKind.signed,Bool.and_eq_true,decide_eq_true_eq]
   exact ⟨h3.1,h3.2⟩)
 obtain ⟨D0,hown,hperm⟩ := own_keys (k := 3) hh hst hs hml (fun x => Lit.int .i64 (keyI x)) hkey
 have hlen := pk_len (lit := fun x => Lit.int .i64 (keyI x)) hperm
 have hks : (intKeys (DataW.map D0)).Perm (kvs.map fun kv => keyI kv.1) := by
  have h := hperm.map Go.intOf
  simp only [List.map_map] at h
  exact h
 have hseq : SeqGives Fence.wide 2 Tryz.prog 80 #[.pointer (some ⟨b,0,none⟩)] encZ (fun ss => ss.Perm (intKeys (DataW.map D0))) (Maps.size (DataW.map D0)) w :=
  AnyZI.keys_gives (ρ := Tryz.keysI_ren) { Tryz.keysI with } Fence.wide _ trivial rfl (by omega) b gm es.size (DataW.map D0) w hb hc hown
 have cS := AnyZI.sorted_in Tryz.sortedI Fence.wide 5 trivial trivial trivial trivial rfl (by omega) (H.sortsI _) (enters_of Tryz.func79 (by kernel_rfl) rfl) 80 #[.pointer (some ⟨b,0,none⟩)] trivial (enters_of Tryz.func80 (by kernel_rfl) rfl) _ _
  (by show D0.length ≤ _; rw [hlen]; exact hml) (by show D0.length * 8 ≤ _; rw [hlen]; exact hok.1) w hseq
 change CallsIn _ _ Tryz.prog 51 _ _ _ at cS
 refine ((callsIn_wide (n := 5)).1 cS).mono ?_
 rintro e w' ⟨v,ss,rfl,hS,hrow,_,hb⟩
 have e1 : ss.mergeSort (fun x y => decide (x ≤ y)) = sortI kvs := sort_perm (r := fun x y : Int => x ≤ y) (fun _ _ _ => Int.le_trans) Int.le_total (fun _ _ => Int.le_antisymm) (hS.trans hks)
 have e2 : ss.length = ((sortI kvs).map fun n => LV.int .i64 n).length := by rw [List.length_map,← e1,List.length_mergeSort]
 rw [e1,e2] at hrow
 exact ⟨v,rfl,hrow,hb⟩
abbrev H.SortedI.ps : Mk := [some (.fn 80 [.ptr])]
abbrev H.SortedI.rs : Mk := [some (.lf (.sl 1))]
def sortedIF (S : List LV) (x : ((Nat × Nat) × Unit) × Unit) : Option ((List LV × Unit) × List LV) := match S.getD x.1.1.1 .any with
 | .obj _ [.map m] => (match S.getD m .any with
  | .mp (.int .i64) kvs => (match Nat.beq x.1.1.2 0 && H.keyIok kvs with
   | true => some (((sortI kvs).map fun n => LV.int .i64 n,()),S)
   | false => none)
  | _ => none)
 | _ => none
def H.SortedI.fn (_k : Nat) (x : ((Nat × Nat) × Unit) × Unit) (S : List LV) (K : List LV × Unit → List LV → Option R) : Option R := match sortedIF S x with | some r => K r.1 r.2 | none => none
def H.SortedI.h (k : Nat) : Hd R := hT H.SortedI.ps fun x S K => H.SortedI.fn k x S fun r S => K (resE H.SortedI.rs r) S
theorem rigids_intL : ∀ l : List Int,rigids (l.map fun n => LV.int .i64 n) = some (l.map encZ)
 | [] => rfl
 | b :: l => by simp only [List.map_cons,rigids,rigid,rigids_intL l,encZ]
theorem H.SortedI.calls {S S' : List LV} {x : ((Nat × Nat) × Unit) × Unit} {r : List LV × Unit} (h : sortedIF S x = some (r,S')) : LCalls Tryz.prog 51 (H.SortedI.ps.enc x) S (resE H.SortedI.rs r) S' := by
 obtain ⟨⟨⟨id,p⟩,u⟩,u2⟩ := x
 unfold sortedIF at h
 split at h
 ·rename_i ty m hS1
  split at h
  ·rename_i kvs hS2
   split at h
   ·rename_i hb
    rw [Bool.and_eq_true] at hb
    have e1 : p = 0 := Nat.eq_of_beq_eq_true hb.1
    subst e1
    cases h
    refine LCalls.sorted (e := 3) hS1 hS2 (rigids_intL _) ?_ fun w b gm es clock h1 h2 h3 h4 h5 h6 => H.sortedI_calls hb.2 w b gm es clock h1 h2 h3 h4 h5 h6
    have := hb.2
    simp only [H.keyIok,Bool.and_eq_true,decide_eq_true_eq] at this
    simp only [List.length_map,sortI,List.length_mergeSort]; omega
   ·cases h
  ·cases h
 ·cases h
theorem H.SortedI.ok (k : Nat) : HSound Tryz.prog 51 (H.SortedI.h (R := R) k) :=
 hand_okS (enters_ok Tryz.func51 (by kernel_rfl) (by kernel_rfl)) (ps := H.SortedI.ps) (rs := H.SortedI.rs) (g := sortedIF) (fun S x K => by unfold H.SortedI.fn; cases sortedIF S x <;> rfl) fun x S r S' h => H.SortedI.calls h
end
end Go.Lm
