/- Parts of the proof: LmK4, LmHs, LmK5, LmX, LmS, LmU, LmU2. -/
import Derived.Test.YtkneddlelcmmjaaGreatDoorLc
import Derived.Shelf.SortM.Plain
import Derived.Shelf.SortM.SortNone
import Derived.Sort.EncStr
import Derived.Sort.Grow
import Derived.Lib.Bytes
import Derived.Deep.Draws
import Derived.Shelf.SlLaysC
import Derived.Shelf.Bytes.SlSplitNil
import Derived.Shelf.Bytes.SlIndexWhole
import Derived.Sort.Walk0
import Derived.Laws.Closers25b
set_option linter.unusedVariables false
set_option linter.unusedSimpArgs false
set_option maxRecDepth 100000
namespace Go.Lm
open Go.Proofs Go.RowKit Go.Maps Go.Sort Go.Shelf
section
variable {R:Type}
theorem pk_len {kvs:List (LV×LV)} {D0:List (Lit×DataW Unit)} {lit:LV→Lit} (h:(D0.map Prod.fst).Perm (kvs.map fun kv=>lit kv.1)):D0.length=kvs.length:=by
 have:=h.length_eq
 simpa using this
theorem H.sortsS (m:Nat):AnyZ.SortsIn Tryz.prog Tryz.sortedS_ren Fence.wide m :=
 ⟨fun blk off cap ss W hH hblk hsz=>callsIn_wide.2 (AnyM.slices_Sort_string Tryz.sortS blk off cap ss W hH hblk hsz),fun p cap W=>callsIn_wide.2 (AnyM.slices_Sort_string_none Tryz.sortS p cap W)⟩
def H.keySok (kvs:List (LV×LV)):Bool:=decide (kvs.length*16≤140737488355328)&&kvs.all fun kv=>decide ((keyS kv.1).length≤9223372036854775807)
def sortedSF (S:List LV) (x:((Nat×Nat)×Unit)×Unit):Option ((List LV×Unit)×List LV):=match S.getD x.1.1.1 .any with
 | .obj _ [.map m]=>(match S.getD m .any with
  | .mp .str kvs=>(match Nat.beq x.1.1.2 0&&H.keySok kvs with
   |true=>some (((sortS kvs).map fun l=>LV.str ⟨l.toArray⟩,()),S)
   |false=>none)
  |_=>none)
 |_=>none
theorem rigids_strL:∀l:List (List UInt8),rigids (l.map fun b=>LV.str ⟨b.toArray⟩)=some (l.map encStr)
 |[]=>rfl
 |b::l=>by simp only [List.map_cons,rigids,rigid,rigids_strL l,encStr]
theorem H.keySok_perm {ks kvs:List (LV×LV)} (hp:ks.Perm kvs) (h:H.keySok kvs=true):H.keySok ks=true:=by
 simp only [H.keySok,Bool.and_eq_true,decide_eq_true_eq,List.all_eq_true] at h ⊢
 exact ⟨by rw [hp.length_eq];exact h.1,fun x hx=>h.2 x (hp.mem_iff.1 hx)⟩
theorem sortS_perm {ks kvs:List (LV×LV)} (hp:ks.Perm kvs):sortS ks=sortS kvs :=
 sort_perm (r:=fun x y:List UInt8=>x≤y) (fun _ _ _=>List.le_trans) List.le_total (fun _ _=>List.le_antisymm) (hp.map _)
theorem H.sortedB_calls {kvs0 kvs:List (LV×LV)} (hp:kvs.Perm kvs0) (hok0:H.keySok kvs0=true) (w:World) (b gm:Nat) (es:Array MapEntry) (clock:Nat) (hc:w.cell? ⟨b,0,none⟩=some (.map (some gm))) (hb:b<w.heap.size) (hh:w.heap[gm]? = some (.map es clock)) (hst:MapKept.Stamped es clock) (hs:es.size=kvs.length)
  (hk:∀i,i<kvs.length→rigid (kvs.getD i (.any,.any)).1=some (es.getD i ⟨undef,undef,0⟩).key∧keyOk .str (kvs.getD i (.any,.any)).1=true) :
  Calls Tryz.prog 40 #[.func (.func 231) #[] #[.pointer (some ⟨b,0,none⟩)]] w fun en w'=>∃v,en = .returned v∧w'.ownsRow w.heap.size 9 1 v ((sortS kvs0).map fun l=>LV.str ⟨l.toArray⟩).length ((sortS kvs0).map encStr)∧Below w.heap.size w w':=by
 rw [←sortS_perm hp]
 have hok:=H.keySok_perm hp hok0
 simp only [H.keySok,Bool.and_eq_true,decide_eq_true_eq,List.all_eq_true] at hok
 have hml:kvs.length≤maxLen:=by unfold maxLen;omega
 have hkey:∀i,i<kvs.length→keyOf Tryz.prog 9 (es.getD i ⟨undef,undef,0⟩).key=some ((fun x=>Lit.string (keyS x)) (kvs.getD i (.any,.any)).1):=fun i hi=>by
  obtain ⟨h1,h2⟩:=hk i hi
  have hm:kvs.getD i (.any,.any)∈kvs:=by simp [List.getD_eq_getElem?_getD,hi]
  have h3:=hok.2 _ hm
  generalize (kvs.getD i (.any,.any)).1=x at h1 h2 h3
  cases x<;>simp only [keyOk] at h2<;>try (cases h2;done)
  rename_i s
  simp only [rigid,Option.some.injEq] at h1
  rw [←h1]
  exact WideMaps.keyOf_string_mk (by kernel_rfl) (by unfold maxLen;simpa [keyS] using h3)
 obtain ⟨D0,hown,hperm⟩:=own_keys (k:=9) hh hst hs hml (fun x=>Lit.string (keyS x)) hkey
 have hlen:=pk_len (lit:=fun x=>Lit.string (keyS x)) hperm
 have hks:(strKeys (DataW.map D0)).Perm (kvs.map fun kv=>keyS kv.1):=by
  have h:=hperm.map Go.strOf
  simp only [List.map_map] at h
  exact h
 have hseq:SeqGives Fence.wide 2 Tryz.prog 231 #[.pointer (some ⟨b,0,none⟩)] encStr (fun ss=>ss.Perm (strKeys (DataW.map D0))) (Maps.size (DataW.map D0)) w :=
  AnyZ.keys_gives (ρ:=Tryz.keysS_ren) { Tryz.keysS with } Fence.wide _ trivial rfl (by omega) b gm es.size (DataW.map D0) w hb hc hown
 have cS:=AnyZ.sorted_in Tryz.sortedS Fence.wide 5 trivial trivial trivial trivial rfl (by omega) (H.sortsS _) (enters_of Tryz.func69 (by kernel_rfl) rfl) 231 #[.pointer (some ⟨b,0,none⟩)] trivial (enters_of Tryz.func231 (by kernel_rfl) rfl) _ _
  (by show D0.length≤_;rw [hlen];exact hml) (by show D0.length*16≤_;rw [hlen];exact hok.1) w hseq
 change CallsIn _ _ Tryz.prog 40 _ _ _ at cS
 refine ((callsIn_wide (n:=5)).1 cS).mono ?_
 rintro e w' ⟨v,ss,rfl,hS,hrow,_,hb⟩
 have e1:ss.mergeSort (fun x y=>decide (x≤y))=sortS kvs:=sort_perm (r:=fun x y:List UInt8=>x≤y) (fun _ _ _=>List.le_trans) List.le_total (fun _ _=>List.le_antisymm) (hS.trans hks)
 have e2:ss.length=((sortS kvs).map fun l=>LV.str ⟨l.toArray⟩).length:=by rw [List.length_map,←e1,List.length_mergeSort]
 rw [e1,e2] at hrow
 exact ⟨v,rfl,hrow,hb⟩
abbrev H.SortedB.ps:Mk:=[some (.fn 231 [.ptr])]
abbrev H.SortedB.rs:Mk:=[some (.lf (.sl 1))]
def H.SortedB.fn (_k:Nat) (x:((Nat×Nat)×Unit)×Unit) (S:List LV) (K:List LV×Unit→List LV→Option R):Option R:=match sortedSF S x with|some r=>K r.1 r.2|none=>none
def H.SortedB.h (k:Nat):Hd R:=hT H.SortedB.ps fun x S K=>H.SortedB.fn k x S fun r S=>K (resE H.SortedB.rs r) S
theorem H.SortedB.calls {S S':List LV} {x:((Nat×Nat)×Unit)×Unit} {r:List LV×Unit} (h:sortedSF S x=some (r,S')):LCalls Tryz.prog 40 (H.SortedB.ps.enc x) S (resE H.SortedB.rs r) S':=by
 obtain ⟨⟨⟨id,p⟩,u⟩,u2⟩:=x
 unfold sortedSF at h
 split at h
 ·rename_i ty m hS1
  split at h
  ·rename_i kvs hS2
   split at h
   ·rename_i hb
    rw [Bool.and_eq_true] at hb
    have e1:p=0:=Nat.eq_of_beq_eq_true hb.1
    subst e1
    cases h
    refine LCalls.sorted (e:=9) hS1 hS2 (rigids_strL _) ?_ fun w b gm es clock ks hp h1 h2 h3 h4 h5 h6=>H.sortedB_calls hp hb.2 w b gm es clock h1 h2 h3 h4 h5 h6
    have:=hb.2
    simp only [H.keySok,Bool.and_eq_true,decide_eq_true_eq] at this
    simp only [List.length_map,sortS,List.length_mergeSort];omega
   ·cases h
  ·cases h
 ·cases h
theorem H.SortedB.ok (k:Nat):HSound Tryz.prog 40 (H.SortedB.h (R:=R) k) :=
 hand_okS (enters_ok Tryz.func40 (by kernel_rfl) (by kernel_rfl)) (ps:=H.SortedB.ps) (rs:=H.SortedB.rs) (g:=sortedSF) (fun S x K=>by unfold H.SortedB.fn;cases sortedSF S x<;>rfl) fun x S r S' h=>H.SortedB.calls h
theorem H.sortedL_calls {kvs0 kvs:List (LV×LV)} (hp:kvs.Perm kvs0) (hok0:H.keySok kvs0=true) (w:World) (b gm:Nat) (es:Array MapEntry) (clock:Nat) (hc:w.cell? ⟨b,0,none⟩=some (.map (some gm))) (hb:b<w.heap.size) (hh:w.heap[gm]? = some (.map es clock)) (hst:MapKept.Stamped es clock) (hs:es.size=kvs.length)
  (hk:∀i,i<kvs.length→rigid (kvs.getD i (.any,.any)).1=some (es.getD i ⟨undef,undef,0⟩).key∧keyOk .str (kvs.getD i (.any,.any)).1=true) :
  Calls Tryz.prog 40 #[.func (.func 70) #[] #[.pointer (some ⟨b,0,none⟩)]] w fun en w'=>∃v,en = .returned v∧w'.ownsRow w.heap.size 9 1 v ((sortS kvs0).map fun l=>LV.str ⟨l.toArray⟩).length ((sortS kvs0).map encStr)∧Below w.heap.size w w':=by
 rw [←sortS_perm hp]
 have hok:=H.keySok_perm hp hok0
 simp only [H.keySok,Bool.and_eq_true,decide_eq_true_eq,List.all_eq_true] at hok
 have hml:kvs.length≤maxLen:=by unfold maxLen;omega
 have hkey:∀i,i<kvs.length→keyOf Tryz.prog 9 (es.getD i ⟨undef,undef,0⟩).key=some ((fun x=>Lit.string (keyS x)) (kvs.getD i (.any,.any)).1):=fun i hi=>by
  obtain ⟨h1,h2⟩:=hk i hi
  have hm:kvs.getD i (.any,.any)∈kvs:=by simp [List.getD_eq_getElem?_getD,hi]
  have h3:=hok.2 _ hm
  generalize (kvs.getD i (.any,.any)).1=x at h1 h2 h3
  cases x<;>simp only [keyOk] at h2<;>try (cases h2;done)
  rename_i s
  simp only [rigid,Option.some.injEq] at h1
  rw [←h1]
  exact WideMaps.keyOf_string_mk (by kernel_rfl) (by unfold maxLen;simpa [keyS] using h3)
 obtain ⟨D0,hown,hperm⟩:=own_keys (k:=9) hh hst hs hml (fun x=>Lit.string (keyS x)) hkey
 have hlen:=pk_len (lit:=fun x=>Lit.string (keyS x)) hperm
 have hks:(strKeys (DataW.map D0)).Perm (kvs.map fun kv=>keyS kv.1):=by
  have h:=hperm.map Go.strOf
  simp only [List.map_map] at h
  exact h
 have hseq:SeqGives Fence.wide 2 Tryz.prog 70 #[.pointer (some ⟨b,0,none⟩)] encStr (fun ss=>ss.Perm (strKeys (DataW.map D0))) (Maps.size (DataW.map D0)) w :=
  AnyZ.keys_gives (ρ:=Tryz.keysL_ren) { Tryz.keysL with } Fence.wide _ trivial rfl (by omega) b gm es.size (DataW.map D0) w hb hc hown
 have cS:=AnyZ.sorted_in Tryz.sortedS Fence.wide 5 trivial trivial trivial trivial rfl (by omega) (H.sortsS _) (enters_of Tryz.func69 (by kernel_rfl) rfl) 70 #[.pointer (some ⟨b,0,none⟩)] trivial (enters_of Tryz.func70 (by kernel_rfl) rfl) _ _
  (by show D0.length≤_;rw [hlen];exact hml) (by show D0.length*16≤_;rw [hlen];exact hok.1) w hseq
 change CallsIn _ _ Tryz.prog 40 _ _ _ at cS
 refine ((callsIn_wide (n:=5)).1 cS).mono ?_
 rintro e w' ⟨v,ss,rfl,hS,hrow,_,hb⟩
 have e1:ss.mergeSort (fun x y=>decide (x≤y))=sortS kvs:=sort_perm (r:=fun x y:List UInt8=>x≤y) (fun _ _ _=>List.le_trans) List.le_total (fun _ _=>List.le_antisymm) (hS.trans hks)
 have e2:ss.length=((sortS kvs).map fun l=>LV.str ⟨l.toArray⟩).length:=by rw [List.length_map,←e1,List.length_mergeSort]
 rw [e1,e2] at hrow
 exact ⟨v,rfl,hrow,hb⟩
abbrev H.SortedL.ps:Mk:=[some (.fn 70 [.ptr])]
abbrev H.SortedL.rs:Mk:=[some (.lf (.sl 1))]
def H.SortedL.fn (_k:Nat) (x:((Nat×Nat)×Unit)×Unit) (S:List LV) (K:List LV×Unit→List LV→Option R):Option R:=match sortedSF S x with|some r=>K r.1 r.2|none=>none
def H.SortedL.h (k:Nat):Hd R:=hT H.SortedL.ps fun x S K=>H.SortedL.fn k x S fun r S=>K (resE H.SortedL.rs r) S
theorem H.SortedL.calls {S S':List LV} {x:((Nat×Nat)×Unit)×Unit} {r:List LV×Unit} (h:sortedSF S x=some (r,S')):LCalls Tryz.prog 40 (H.SortedL.ps.enc x) S (resE H.SortedL.rs r) S':=by
 obtain ⟨⟨⟨id,p⟩,u⟩,u2⟩:=x
 unfold sortedSF at h
 split at h
 ·rename_i ty m hS1
  split at h
  ·rename_i kvs hS2
   split at h
   ·rename_i hb
    rw [Bool.and_eq_true] at hb
    have e1:p=0:=Nat.eq_of_beq_eq_true hb.1
    subst e1
    cases h
    refine LCalls.sorted (e:=9) hS1 hS2 (rigids_strL _) ?_ fun w b gm es clock ks hp h1 h2 h3 h4 h5 h6=>H.sortedL_calls hp hb.2 w b gm es clock h1 h2 h3 h4 h5 h6
    have:=hb.2
    simp only [H.keySok,Bool.and_eq_true,decide_eq_true_eq] at this
    simp only [List.length_map,sortS,List.length_mergeSort];omega
   ·cases h
  ·cases h
 ·cases h
theorem H.SortedL.ok (k:Nat):HSound Tryz.prog 40 (H.SortedL.h (R:=R) k) :=
 hand_okS (enters_ok Tryz.func40 (by kernel_rfl) (by kernel_rfl)) (ps:=H.SortedL.ps) (rs:=H.SortedL.rs) (g:=sortedSF) (fun S x K=>by unfold H.SortedL.fn;cases sortedSF S x<;>rfl) fun x S r S' h=>H.SortedL.calls h
theorem H.sortedF_calls {kvs0 kvs:List (LV×LV)} (hp:kvs.Perm kvs0) (hok0:H.keySok kvs0=true) (w:World) (b gm:Nat) (es:Array MapEntry) (clock:Nat) (hc:w.cell? ⟨b,0,none⟩=some (.map (some gm))) (hb:b<w.heap.size) (hh:w.heap[gm]? = some (.map es clock)) (hst:MapKept.Stamped es clock) (hs:es.size=kvs.length)
  (hk:∀i,i<kvs.length→rigid (kvs.getD i (.any,.any)).1=some (es.getD i ⟨undef,undef,0⟩).key∧keyOk .str (kvs.getD i (.any,.any)).1=true) :
  Calls Tryz.prog 40 #[.func (.func 71) #[] #[.pointer (some ⟨b,0,none⟩)]] w fun en w'=>∃v,en = .returned v∧w'.ownsRow w.heap.size 9 1 v ((sortS kvs0).map fun l=>LV.str ⟨l.toArray⟩).length ((sortS kvs0).map encStr)∧Below w.heap.size w w':=by
 rw [←sortS_perm hp]
 have hok:=H.keySok_perm hp hok0
 simp only [H.keySok,Bool.and_eq_true,decide_eq_true_eq,List.all_eq_true] at hok
 have hml:kvs.length≤maxLen:=by unfold maxLen;omega
 have hkey:∀i,i<kvs.length→keyOf Tryz.prog 9 (es.getD i ⟨undef,undef,0⟩).key=some ((fun x=>Lit.string (keyS x)) (kvs.getD i (.any,.any)).1):=fun i hi=>by
  obtain ⟨h1,h2⟩:=hk i hi
  have hm:kvs.getD i (.any,.any)∈kvs:=by simp [List.getD_eq_getElem?_getD,hi]
  have h3:=hok.2 _ hm
  generalize (kvs.getD i (.any,.any)).1=x at h1 h2 h3
  cases x<;>simp only [keyOk] at h2<;>try (cases h2;done)
  rename_i s
  simp only [rigid,Option.some.injEq] at h1
  rw [←h1]
  exact WideMaps.keyOf_string_mk (by kernel_rfl) (by unfold maxLen;simpa [keyS] using h3)
 obtain ⟨D0,hown,hperm⟩:=own_keys (k:=9) hh hst hs hml (fun x=>Lit.string (keyS x)) hkey
 have hlen:=pk_len (lit:=fun x=>Lit.string (keyS x)) hperm
 have hks:(strKeys (DataW.map D0)).Perm (kvs.map fun kv=>keyS kv.1):=by
  have h:=hperm.map Go.strOf
  simp only [List.map_map] at h
  exact h
 have hseq:SeqGives Fence.wide 2 Tryz.prog 71 #[.pointer (some ⟨b,0,none⟩)] encStr (fun ss=>ss.Perm (strKeys (DataW.map D0))) (Maps.size (DataW.map D0)) w :=
  AnyZ.keys_gives (ρ:=Tryz.keysF_ren) { Tryz.keysF with } Fence.wide _ trivial rfl (by omega) b gm es.size (DataW.map D0) w hb hc hown
 have cS:=AnyZ.sorted_in Tryz.sortedS Fence.wide 5 trivial trivial trivial trivial rfl (by omega) (H.sortsS _) (enters_of Tryz.func69 (by kernel_rfl) rfl) 71 #[.pointer (some ⟨b,0,none⟩)] trivial (enters_of Tryz.func71 (by kernel_rfl) rfl) _ _
  (by show D0.length≤_;rw [hlen];exact hml) (by show D0.length*16≤_;rw [hlen];exact hok.1) w hseq
 change CallsIn _ _ Tryz.prog 40 _ _ _ at cS
 refine ((callsIn_wide (n:=5)).1 cS).mono ?_
 rintro e w' ⟨v,ss,rfl,hS,hrow,_,hb⟩
 have e1:ss.mergeSort (fun x y=>decide (x≤y))=sortS kvs:=sort_perm (r:=fun x y:List UInt8=>x≤y) (fun _ _ _=>List.le_trans) List.le_total (fun _ _=>List.le_antisymm) (hS.trans hks)
 have e2:ss.length=((sortS kvs).map fun l=>LV.str ⟨l.toArray⟩).length:=by rw [List.length_map,←e1,List.length_mergeSort]
 rw [e1,e2] at hrow
 exact ⟨v,rfl,hrow,hb⟩
abbrev H.SortedF.ps:Mk:=[some (.fn 71 [.ptr])]
abbrev H.SortedF.rs:Mk:=[some (.lf (.sl 1))]
def H.SortedF.fn (_k:Nat) (x:((Nat×Nat)×Unit)×Unit) (S:List LV) (K:List LV×Unit→List LV→Option R):Option R:=match sortedSF S x with|some r=>K r.1 r.2|none=>none
def H.SortedF.h (k:Nat):Hd R:=hT H.SortedF.ps fun x S K=>H.SortedF.fn k x S fun r S=>K (resE H.SortedF.rs r) S
theorem H.SortedF.calls {S S':List LV} {x:((Nat×Nat)×Unit)×Unit} {r:List LV×Unit} (h:sortedSF S x=some (r,S')):LCalls Tryz.prog 40 (H.SortedF.ps.enc x) S (resE H.SortedF.rs r) S':=by
 obtain ⟨⟨⟨id,p⟩,u⟩,u2⟩:=x
 unfold sortedSF at h
 split at h
 ·rename_i ty m hS1
  split at h
  ·rename_i kvs hS2
   split at h
   ·rename_i hb
    rw [Bool.and_eq_true] at hb
    have e1:p=0:=Nat.eq_of_beq_eq_true hb.1
    subst e1
    cases h
    refine LCalls.sorted (e:=9) hS1 hS2 (rigids_strL _) ?_ fun w b gm es clock ks hp h1 h2 h3 h4 h5 h6=>H.sortedF_calls hp hb.2 w b gm es clock h1 h2 h3 h4 h5 h6
    have:=hb.2
    simp only [H.keySok,Bool.and_eq_true,decide_eq_true_eq] at this
    simp only [List.length_map,sortS,List.length_mergeSort];omega
   ·cases h
  ·cases h
 ·cases h
theorem H.SortedF.ok (k:Nat):HSound Tryz.prog 40 (H.SortedF.h (R:=R) k) :=
 hand_okS (enters_ok Tryz.func40 (by kernel_rfl) (by kernel_rfl)) (ps:=H.SortedF.ps) (rs:=H.SortedF.rs) (g:=sortedSF) (fun S x K=>by unfold H.SortedF.fn;cases sortedSF S x<;>rfl) fun x S r S' h=>H.SortedF.calls h
end
end Go.Lm
namespace Go.Lm
open Go.Sort Go.Proofs
section
variable {R:Type} {P:Program}
theorem LCalls.enter0 {args S:List LV} {c:Cx} {vs:List Value} {o:Ow} (hl:vs.length=args.length) (hr:∀i,i<args.length→Rep c (args.getD i .any) (vs.getD i undef) (o (.arg i))) (hsto:Sto c S o) (hsep:Sep o) (hlt:∀k g,g∈o k→g<c.w.heap.size) :
  ∃o',RelO ⟨c,fun g=>∃k,g∈o k⟩ ⟨[],[],S⟩ { tmps:=#[],defers:=[] } c [] [] o':=by
 refine ⟨fun k=>match k with | .sto id=>o (.sto id)|_=>[],rfl,Nat.le_refl _,fun t ht=>absurd ht (by simp),fun t d p h=>by simp at h,⟨hsto.n,hsto.r,hsto.bd⟩,fun i hi=>by simp at hi,rfl,⟨fun k=>?_,fun k k' g hne hg hg'=>?_⟩,Ext.refl _ _,fun k g hg=>?_,rfl⟩
 ·cases k<;>first|exact List.nodup_nil|exact hsep.nd _
 ·cases k<;>cases k'<;>first|(cases hg;done)|(cases hg';done)|exact hsep.dj _ _ g hne hg hg'
 ·cases k with
  |env t=>cases hg
  |sto id=>exact ⟨hlt _ g hg,.inl ⟨_,hg⟩⟩
  |arg i=>cases hg
theorem setFrom_app:∀(vs pre xs:List LV),vs.length=xs.length→setFrom (pre++xs) pre.length vs=pre++vs
 |[],pre,[],_=>rfl
 |[],_,_::_,h=>by simp at h
 |_::_,_,[],h=>by simp at h
 |v::vs,pre,x::xs,h=>by
  have e1:(pre++x::xs).set pre.length v=(pre++[v])++xs:=by simp
  simp only [setFrom]
  rw [e1]
  have:=setFrom_app vs (pre++[v]) xs (by simpa using h)
  rw [List.length_append,List.length_singleton] at this
  rw [this];simp
theorem setFrom_all (xs vs:List LV) (h:vs.length=xs.length):setFrom xs 0 vs=vs:=setFrom_app vs [] xs h
def strsL (ss:List (List UInt8)):List LV:=ss.map fun b=>.str ⟨b.toArray⟩
theorem strsL_len (ss:List (List UInt8)):(strsL ss).length=ss.length:=by simp [strsL]
theorem encStr_rep (c:Cx) (b:List UInt8):Rep c (.str ⟨b.toArray⟩) (encStr b) []:=.str _
theorem putRow_heap {w:World} {g:Nat} {cur:Array Value} {ty:TypeId} {fz:Nat×Nat} (hh:w.heap[g]? = some (.cells cur ty fz)) (d:Array (List UInt8)):(putRow encStr w g 0 d).heap[g]? = some (.cells (putCells encStr 0 d cur) ty fz):=by
 simp [putRow,mapBlock,Array.getElem?_modify,hh,onCells]
theorem putRow_other {w:World} {g b:Nat} (d:Array (List UInt8)) (hb:b≠g):(putRow encStr w g 0 d).heap[b]? = w.heap[b]?:=by
 simp [putRow,mapBlock,Array.getElem?_modify,Ne.symm hb]
theorem putRow_size {w:World} {g:Nat} (d:Array (List UInt8)):(putRow encStr w g 0 d).heap.size=w.heap.size:=by
 simp [putRow,mapBlock]
theorem LCalls.turnS {f:FuncId} {S:List LV} {id ty:Nat} {mk:List LV→LV} {ss ss':List (List UInt8)} (hm:MkO mk ty) (hS:S.getD id .any=mk (strsL ss)) (hl:ss'.length=ss.length) {m:Nat} (hle:m≤ss.length) (ret:Bool)
  (h:∀(w:World) (blk cap:Nat),Holds encStr w blk 0 ss.toArray→blk<w.heap.size→ss.length≤cap→Calls P f #[.slice (some ⟨blk,0,none⟩) ss.length cap] w fun e w' =>
   e = .returned (cond ret (.slice (some ⟨blk,0,none⟩) m cap) (.tuple #[]))∧∃n os,w'=Sort.grow (putRow encStr (Sort.ahead w n) blk 0 ss'.toArray) os) :
  LCalls P f [.osl id 0 1 ss.length] S (cond ret (.osl id 0 1 m) (.tup [])) (S.set id (mk (strsL ss'))):=by
 intro c vs o hvl hvr hsto hsep hlt
 obtain ⟨o1,hr⟩:=LCalls.enter0 hvl hvr hsto hsep hlt
 have r0:=hvr 0 (by simp)
 simp only [List.getD_cons_zero] at r0
 obtain ⟨hidS,cur,os,hO,hs,hh,hI,ho1,hrep,_⟩:=hr.obj hm hS
 rw [strsL_len] at hs
 have hsl:∃cap,vs=[.slice (some ⟨c.ι id,0,none⟩) ss.length cap]∧id<c.n∧ss.length≤cap∧cap≤9223372036854775807∧cap≤cur.size:=by
  generalize hv:vs.getD 0 undef=v at r0
  generalize o (.arg 0)=O at r0
  cases r0 with
  |oslX _ _ o' _ _ cap hid hcap hmax ho' hz =>
   have ep:o'=0:=by rcases ho' with h|h;exact h;omega
   subst ep
   obtain ⟨cur',e',k',h1,h2⟩:=hz
   rw [hh] at h1
   cases h1
   refine ⟨cap,?_,hid,hcap,hmax,by omega⟩
   cases vs with
   |nil=>simp at hvl
   |cons v vs=>cases vs with
    |nil=>simp only [List.getD_cons_zero] at hv;rw [hv]
    |cons=>simp at hvl
 obtain ⟨cap,rfl,hid,hcap,hmax,hcs⟩:=hsl
 have hget:∀j,j<ss.length→cur.getD j undef=encStr (ss.getD j []):=fun j hj=>by
  have r:=hrep j (by rw [strsL_len];exact hj)
  have e:(strsL ss).getD j .any = .str ⟨(ss.getD j []).toArray⟩:=by simp [strsL,List.getD_eq_getElem?_getD,hj]
  rw [e] at r
  exact rep_str r
 have hH:Holds encStr c.w (c.ι id) 0 ss.toArray:=fun j hj=>by
  have hj:j<ss.length:=by simpa using hj
  have hjc:j<cur.size:=by omega
  have:=hget j hj
  refine ⟨?_,by simp [World.frozen?,hh]⟩
  rw [Nat.zero_add]
  have e1:c.w.cell? ⟨c.ι id,j,none⟩=some (cur.getD j undef):=by simp [World.cell?,hh,hjc,Array.getD_eq_getD_getElem?]
  rw [e1,this]
  simp [List.getD_eq_getElem?_getD,hj]
 obtain ⟨o2,h2⟩:=hr.flyL (strsL ss') (ss'.map encStr) (by simp [strsL]) (fun i hi=>by
  have hi:i<ss'.length:=by simpa [strsL] using hi
  have e1:(strsL ss').getD i .any = .str ⟨(ss'.getD i []).toArray⟩:=by simp [strsL,List.getD_eq_getElem?_getD,hi]
  have e2:(ss'.map encStr).getD i undef=encStr (ss'.getD i []):=by simp [List.getD_eq_getElem?_getD,hi]
  rw [e1,e2];exact encStr_rep c _)
 simp only [List.nil_append] at h2
 have hone:∀u,u∈ss'.map encStr→u.oneCell'=true:=fun u hu=>by
  obtain ⟨b,_,rfl⟩:=List.mem_map.1 hu;rfl
 obtain ⟨w1,hst,hrel⟩:=h2.land (P:=P) (id:=id) (p:=0) hm hS (by simp [strsL];omega) hone rfl
 have hst2:=run_storeCells_at P (c.ι id) 0 ty (ss'.map encStr) 0 cur c.w hh (by simp;omega) hone
 rw [hst2] at hst
 have hw1:w1=c.w.setRow (c.ι id) (List.take (0+0) cur.toList++ss'.map encStr++List.drop (0+0+(ss'.map encStr).length) cur.toList).toArray:=by cases hst;rfl
 have hnew:(List.take (0+0) cur.toList++ss'.map encStr++List.drop (0+0+(ss'.map encStr).length) cur.toList).toArray=putCells encStr 0 ss'.toArray cur:=by
  apply Array.ext_getElem?
  intro k
  simp only [putCells,Array.getElem?_mapIdx,List.getElem?_toArray,Nat.zero_add,List.take_zero,List.nil_append,Nat.add_zero,Nat.zero_le,true_and,Nat.sub_zero,List.size_toArray,List.length_map]
  by_cases hk:k<ss'.length
  ·have hkc:k<cur.size:=by omega
   rw [List.getElem?_append_left (by simpa using hk)]
   simp [hk,hkc]
  ·rw [List.getElem?_append_right (by simp;omega),List.getElem?_drop]
   simp only [List.length_map]
   rw [show ss'.length+(k-ss'.length)=k by omega]
   rcases hc:cur[k]? with _|z
   ·simp [hc]
   ·simp [hk,hc]
 rw [hnew] at hw1
 have hsf:setFrom (strsL ss) 0 (strsL ss')=strsL ss':=setFrom_all _ _ (by simp [strsL,hl])
 simp only [hsf] at hrel
 refine (h c.w (c.ι id) cap hH (Array.getElem?_eq_some_iff.1 hh).1 hcap).mono ?_
 rintro e w' ⟨he,n,os2,hw'⟩
 have hsz:(putRow encStr (Sort.ahead c.w n) (c.ι id) 0 ss'.toArray).heap.size=c.w.heap.size:=putRow_size _
 have hblk:∀b,b<c.w.heap.size→w'.heap[b]? = w1.heap[b]?:=fun b hb=>by
  have e1:w'.heap[b]? = (putRow encStr (Sort.ahead c.w n) (c.ι id) 0 ss'.toArray).heap[b]?:=by
   rw [hw']
   show ((putRow encStr (Sort.ahead c.w n) (c.ι id) 0 ss'.toArray).heap++os2)[b]? = _
   rw [Array.getElem?_append_left (by rw [hsz];exact hb)]
  rw [e1]
  by_cases hg:b=c.ι id
  ·subst hg
   rw [putRow_heap (w:=Sort.ahead c.w n) hh,hw1]
   exact (setRow_heap c.w _ cur _ ty (0,0) hh).symm
  ·rw [putRow_other _ hg,hw1]
   exact (setRow_other c.w _ b _ hg).symm
 have hsz1:w1.heap.size=c.w.heap.size:=by rw [hw1];simp [World.setRow]
 have hsz':c.w.heap.size≤w'.heap.size:=by
  rw [hw']
  show _≤((putRow encStr (Sort.ahead c.w n) (c.ι id) 0 ss'.toArray).heap++os2).size
  rw [Array.size_append,hsz];omega
 obtain ⟨o4,hrel⟩:=hrel
 have hext:Ext ({ c with w:=w1 }:Cx) { c with w:=w' } (fun _=>False):=⟨Nat.le_refl _,fun _ _=>rfl,fun _ _ h=>h,fun b p hb=>World.cell?_of_block (w:=w1) (hblk b (by have:=hrel.sto.bd b p hb;rw [←hsz1];exact this)),by show w1.heap.size≤w'.heap.size;omega,
  fun b hb _=>hblk b (by rw [←hsz1];exact hb),fun _ _ _ _ h=>h,(fun _ _ _ _ h _=>False.elim h),by rw [hw',hw1];rfl,by rw [hw',hw1];rfl,by rw [hw',hw1];rfl⟩
 have hmv:=hrel.move (c':={ c with w:=w' }) hext (fun _ hf=>hf.elim) rfl (fun b p hb=>Nat.lt_of_lt_of_le (hrel.sto.bd b p hb) hext.size)
 have hres:Rep ({ c with w:=w' }:Cx) (cond ret (.osl id 0 1 m) (.tup [])) (cond ret (.slice (some ⟨c.ι id,0,none⟩) m cap) (.tuple #[])) []:=by
  cases ret with
  |false=>exact Rep.tup [] #[] (fun _=>[]) rfl (fun i hi=>by simp at hi)
  |true =>
   refine Rep.osl (c:={ c with w:=w' }) id 0 1 m cap hid (by omega) hmax ⟨putCells encStr 0 ss'.toArray cur,ty,(0,0),?_,by simp [putCells];omega⟩
   show w'.heap[c.ι id]? = _
   rw [hblk _ (Array.getElem?_eq_some_iff.1 hh).1,hw1]
   exact setRow_heap c.w _ cur _ ty (0,0) hh
 exact LCalls.leave (c':={ c with w:=w' }) rfl he rfl hres ⟨o4,hmv⟩
def SlAt (w:World) (A:Option Addr) (cap:Nat) (zs:List Int):Prop :=
 zs.length≤cap∧zs.length≤9223372036854775807∧(A=none→zs=[]∧cap=0)∧(0<zs.length→∃b off,A=some ⟨b,off,none⟩)∧∀a,A=some a→∀i,i<zs.length→w.cell? (a.add i)=some (.int .u8 (zs.getD i 0))
theorem strL_ints:∀{xs:List LV} {l:List UInt8},strL xs=some l→∃zs:List Int,xs=zs.map (LV.int .u8)∧Lib.bytesOf zs=l
 |[],l,h=>by cases h;exact ⟨[],rfl,rfl⟩
 |x::xs,l,h=>by
  unfold strL at h
  split at h
  ·rename_i heq;cases heq
  ·rename_i n xs' heq
   cases heq
   cases hs:strL xs with
   |none=>rw [hs] at h;cases h
   |some l' =>
    rw [hs] at h
    cases h
    obtain ⟨zs,h1,h2⟩:=strL_ints hs
    exact ⟨n::zs,by rw [h1];rfl,by rw [←h2];rfl⟩
  ·cases h
theorem slAt_of {c:Cx} {zs:List Int} {v:Value} {O:List Nat} (r:Rep c (.sl 1 (zs.map (LV.int .u8))) v O):∃A cap,v = .slice A zs.length cap∧SlAt c.w A cap zs:=by
 obtain ⟨A,cap,hv,hcap,hmax,hcells⟩:=rep_sl r
 rw [List.length_map] at hv hcap hmax hcells
 refine ⟨A,cap,hv,hcap,hmax,fun hA=>?_,fun h0=>?_,fun a ha i hi=>?_⟩
 ·subst hA
  rw [hv] at r
  have:=rep_sl_nil r
  exact ⟨by simpa using this.1,this.2.2⟩
 ·obtain ⟨b,off,cv,hA,_⟩:=hcells h0
  exact ⟨b,off,hA⟩
 ·obtain ⟨b,off,cv,hA,hc,_,_,hr⟩:=hcells (by omega)
  rw [ha] at hA
  cases hA
  rw [Addr.add_lit,hc i (by omega)]
  have h1:=hr i (by omega)
  rw [Nat.div_one,Nat.mod_one] at h1
  have e:leaf ((zs.map (LV.int .u8)).getD i .any) 0 = .int .u8 (zs.getD i 0):=by simp [List.getD_eq_getElem?_getD,hi,leaf]
  rw [e] at h1
  rw [rep_int h1]
theorem LCalls.sl1 {f:FuncId} {S:List LV} {zs:List Int} {cv:Int} {r:LV} {v:Value} (hr:rigid r=some v)
  (h:∀w A cap,SlAt w A cap zs→Calls P f #[.slice A zs.length cap,.int .u8 cv] w fun e w'=>e = .returned v∧RowKit.Below w.heap.size w w'):LCalls P f [.sl 1 (zs.map (LV.int .u8)),.int .u8 cv] S r S:=by
 refine LCalls.ofS fun c vs o hl hrep hbd hsto=>?_
 obtain ⟨v0,v1,rfl⟩:∃v0 v1,vs=[v0,v1]:=by
  match vs,hl with
  |[v0,v1],_=>exact ⟨v0,v1,rfl⟩
 have r0:=hrep 0 (by simp)
 have r1:=hrep 1 (by simp)
 simp only [List.getD_cons_zero,List.getD_cons_succ] at r0 r1
 obtain ⟨A,cap,rfl,hA⟩:=slAt_of r0
 obtain rfl:=rep_int r1
 refine (h c.w A cap hA).mono ?_
 rintro e w' ⟨he,hb⟩
 exact ⟨{ c with w:=w' },v,[],he,rfl,⟨Nat.le_refl _,fun _ _=>rfl,fun _ _ h=>h,fun b o h=>World.cell?_of_block (w:=c.w) (hb.block b (hbd b o h)),hb.size,fun b hlt _=>hb.block b hlt,fun _ _ _ _ h=>h,(fun _ _ _ _ h _=>False.elim h),hb.os,hb.tape,hb.output⟩,
  rigid_mk hr,List.nodup_nil,by simp,rfl,fun b p h=>Nat.lt_of_lt_of_le (hbd b p h) hb.size⟩
theorem LCalls.sl2 {f:FuncId} {S:List LV} {zs ys:List Int} {r:LV} {v:Value} {I:World→Prop} (hr:rigid r=some v) (hI:∀c:Cx,(∀id,id<S.length→∃O,Rep c (S.getD id .any) (oval (S.getD id .any) (c.ι id)) O)→I c.w)
  (h:∀w A1 c1 A2 c2,I w→SlAt w A1 c1 zs→SlAt w A2 c2 ys→Calls P f #[.slice A1 zs.length c1,.slice A2 ys.length c2] w fun e w'=>e = .returned v∧RowKit.Below w.heap.size w w'):LCalls P f [.sl 1 (zs.map (LV.int .u8)),.sl 1 (ys.map (LV.int .u8))] S r S:=by
 refine LCalls.ofS fun c vs o hl hrep hbd hsto=>?_
 obtain ⟨v0,v1,rfl⟩:∃v0 v1,vs=[v0,v1]:=by
  match vs,hl with
  |[v0,v1],_=>exact ⟨v0,v1,rfl⟩
 have r0:=hrep 0 (by simp)
 have r1:=hrep 1 (by simp)
 simp only [List.getD_cons_zero,List.getD_cons_succ] at r0 r1
 obtain ⟨A,cap,rfl,hA⟩:=slAt_of r0
 obtain ⟨A2,cap2,rfl,hA2⟩:=slAt_of r1
 refine (h c.w A cap A2 cap2 (hI c hsto) hA hA2).mono ?_
 rintro e w' ⟨he,hb⟩
 exact ⟨{ c with w:=w' },v,[],he,rfl,⟨Nat.le_refl _,fun _ _=>rfl,fun _ _ h=>h,fun b o h=>World.cell?_of_block (w:=c.w) (hb.block b (hbd b o h)),hb.size,fun b hlt _=>hb.block b hlt,fun _ _ _ _ h=>h,(fun _ _ _ _ h _=>False.elim h),hb.os,hb.tape,hb.output⟩,
  rigid_mk hr,List.nodup_nil,by simp,rfl,fun b p h=>Nat.lt_of_lt_of_le (hbd b p h) hb.size⟩
theorem below_drewN (w:World) (q:Nat):RowKit.Below w.heap.size w (w.drewN q):=⟨rfl,rfl,rfl,Nat.le_refl _,fun _ _=>rfl⟩
end
end Go.Lm
set_option maxRecDepth 100000
namespace Go.Lm
open Go.Proofs Go.Sort
section
variable {R:Type}
def HasNum (S:List LV) (k:Nat):Prop:=∃id e fz n,S.getD id .any = .glob k (.cells #[.int .i64 n] e fz)
theorem HasNum.app {S:List LV} {k:Nat} (h:HasNum S k) (T:List LV):HasNum (S++T) k:=by
 obtain ⟨id,e,fz,n,h⟩:=h
 refine ⟨id,e,fz,n,?_⟩
 rcases Nat.lt_or_ge id S.length with h1|h1
 ·rw [getD_app_lt _ _ _ _ h1];exact h
 ·rw [List.getD_eq_getElem?_getD,List.getElem?_eq_none h1] at h;cases h
def NumAt (k:Nat) (w:World):Prop:=∃m,w.cell? ⟨k,0,none⟩=some (.int .i64 m)
theorem HasNum.at {S:List LV} {k:Nat} (h:HasNum S k) (c:Cx) (hsto:∀id,id<S.length→∃O,Rep c (S.getD id .any) (oval (S.getD id .any) (c.ι id)) O):NumAt k c.w:=by
 obtain ⟨id,e,fz,n,h⟩:=h
 exact ⟨n,by simp [World.cell?,glob_heap h hsto]⟩
def byteB (xs:List LV):Bool:=xs.all fun | .int .u8 n=>decide (0≤n∧n<256)|_=>false
theorem byteB_ints {zs:List Int} (h:byteB (zs.map (LV.int .u8))=true):∀x∈zs,0≤x∧x<256:=fun x hx=>by
 have:=List.all_eq_true.1 h (.int .u8 x) (List.mem_map.2 ⟨x,hx,rfl⟩)
 simpa using this
abbrev H.BIndexByte.ps:Mk:=[some (.lf (.sl 1)),some (.lf (.int .u8))]
abbrev H.BIndexByte.rs:Mk:=[some (.lf (.int .i64))]
def bIndexByteF (x:List LV×Int×Unit):Option (Int×Unit):=match strL x.1 with
 |some l=>some (Lib.indexByte l x.2.1.toNat.toUInt8,())
 |none=>none
def H.BIndexByte.fn (_k:Nat) (x:List LV×Int×Unit) (S:List LV) (K:Int×Unit→List LV→Option R):Option R:=handF H.BIndexByte.ps H.BIndexByte.rs bIndexByteF x S K
def H.BIndexByte.h (k:Nat):Hd R:=hT H.BIndexByte.ps fun x S K=>H.BIndexByte.fn k x S fun r S=>K (resE H.BIndexByte.rs r) S
theorem H.BIndexByte.ok (k:Nat):HSound Tryz.prog 200 (H.BIndexByte.h (R:=R) k) :=
 hand_ok (enters_ok Tryz.func200 (by kernel_rfl) (by kernel_rfl)) (ps:=H.BIndexByte.ps) (rs:=H.BIndexByte.rs) (g:=bIndexByteF) fun x r S hr=>by
  obtain ⟨xs,cv,u⟩:=x
  unfold bIndexByteF at hr
  dsimp only at hr
  split at hr
  ·rename_i l hl
   cases hr
   obtain ⟨zs,rfl,rfl⟩:=strL_ints hl
   refine LCalls.sl1 (v:=.int .i64 _) rfl fun w A cap hA=>?_
   obtain ⟨hcap,hmax,hnil,hsome,hcell⟩:=hA
   cases A with
   |none =>
    obtain ⟨rfl,rfl⟩:=hnil rfl
    exact (Tryz.bytes_IndexByte_nil cv w).mono fun e w' ⟨he,hw⟩=>⟨he,hw▸RowKit.Below.refl _ _⟩
   |some a =>
    exact (Tryz.bytes_IndexByte_at a zs.length cap zs cv w rfl (hcell a rfl)).mono fun e w' ⟨he,hw⟩=>⟨he,hw▸RowKit.Below.refl _ _⟩
  ·cases hr
noncomputable def H.maxG:Nat:=(Tryz.prog.globalNamed "internal/bytealg.MaxLen").getD 0
theorem H.maxG_eq:Tryz.lays185_ren.g 1=H.maxG:=by kernel_rfl
abbrev H.BIndex.ps:Mk:=[some (.lf (.sl 1)),some (.lf (.sl 1))]
abbrev H.BIndex.rs:Mk:=[some (.lf (.int .i64))]
def H.BIndexOk (S:List LV) (xs ys:List LV):Prop:=HasNum S H.maxG∧byteB xs=true∧byteB ys=true∧xs.length<4294967281∧1≤ys.length
noncomputable def bIndexF (S:List LV) (x:List LV×List LV×Unit):Option ((Int×Unit)×List LV):=match (Classical.propDecidable (H.BIndexOk S x.1 x.2.1)).decide,strL x.1,strL x.2.1 with
 |true,some l,some m=>some ((Lib.index l m,()),S)
 |_,_,_=>none
noncomputable def H.BIndex.fn (_k:Nat) (x:List LV×List LV×Unit) (S:List LV) (K:Int×Unit→List LV→Option R):Option R:=match bIndexF S x with|some r=>K r.1 r.2|none=>none
noncomputable def H.BIndex.h (k:Nat):Hd R:=hT H.BIndex.ps fun x S K=>H.BIndex.fn k x S fun r S=>K (resE H.BIndex.rs r) S
theorem H.BIndex.ok (k:Nat):HSound Tryz.prog 235 (H.BIndex.h (R:=R) k) :=
 hand_okS (enters_ok Tryz.func235 (by kernel_rfl) (by kernel_rfl)) (ps:=H.BIndex.ps) (rs:=H.BIndex.rs) (g:=bIndexF) (fun S x K=>by unfold H.BIndex.fn;cases bIndexF S x<;>rfl) fun x S r S' h=>by
  obtain ⟨xs,ys,u⟩:=x
  unfold bIndexF at h
  dsimp only at h
  split at h
  ·rename_i l m hd hl hm
   cases h
   obtain ⟨h1,h2,h3,h4,h5⟩:H.BIndexOk S xs ys:=@of_decide_eq_true _ (Classical.propDecidable _) hd
   obtain ⟨zs,rfl,rfl⟩:=strL_ints hl
   obtain ⟨us,rfl,rfl⟩:=strL_ints hm
   rw [List.length_map] at h4 h5
   refine LCalls.sl2 (v:=.int .i64 _) (I:=NumAt H.maxG) rfl (fun c hc=>h1.at c hc) fun w A1 c1 A2 c2 ⟨m,hm⟩ hA hB=>?_
   obtain ⟨hcap,hmax,hnil,hsome,hcell⟩:=hA
   obtain ⟨hcap2,hmax2,hnil2,hsome2,hcell2⟩:=hB
   obtain ⟨b2,o2,rfl⟩:=hsome2 (by omega)
   cases A1 with
   |none =>
    obtain ⟨rfl,rfl⟩:=hnil rfl
    refine (Any.bytes_Index_nil Tryz.lays185 (some ⟨b2,o2,none⟩) us.length c2 w hmax2 fun hk=>⟨b2,o2,us.getD 0 0,rfl,by have:=hcell2 _ rfl 0 (by omega);rwa [Addr.add_lit,Nat.add_zero] at this⟩).mono fun e w' ⟨he,hw⟩=>⟨?_,hw▸RowKit.Below.refl _ _⟩
    rw [he,if_neg (by omega)]
    have:Lib.index (Lib.bytesOf []) (Lib.bytesOf us) = -1:=by
     cases us with
     |nil=>simp at h5
     |cons u us=>rfl
    rw [this]
   |some a =>
    exact (Any.bytes_Index_at Tryz.lays185 a ⟨b2,o2,none⟩ zs.length c1 us.length c2 zs us m w rfl rfl (byteB_ints h2) (byteB_ints h3) (hcell a rfl) (hcell2 _ rfl) hcap h4 hmax2 (by rw [H.maxG_eq];exact hm)).mono fun e w' ⟨he,q,hw⟩=>⟨he,hw▸below_drewN w q⟩
  ·cases h
theorem H.countB:SlLaysC.n13 Tryz.prog Tryz.laysSlB13_ren where
 mixed:=by kernel_rfl
 f12:=Tryz.func235.trans (congrArg some (by kernel_rfl))
 f13:=Tryz.func234.trans (congrArg some (by kernel_rfl))
 f19:=Tryz.func200.trans (congrArg some (by kernel_rfl))
 f20:=Tryz.func44.trans (congrArg some (by kernel_rfl))
 f21:=Tryz.func255.trans (congrArg some (by kernel_rfl))
 f22:=Tryz.func256.trans (congrArg some (by kernel_rfl))
 f23:=Tryz.func257.trans (congrArg some (by kernel_rfl))
 f25:=Tryz.func254.trans (congrArg some (by kernel_rfl))
 f29:=Tryz.func233.trans (congrArg some (by kernel_rfl))
 f30:=Tryz.func267.trans (congrArg some (by kernel_rfl))
 t0:=Tryz.lays185.t0
 a0:=Tryz.lays185.a0
 z0:=Tryz.lays185.z0
 v0:=Tryz.lays185.v0
 t3:=Tryz.lays185.t3
 a3:=Tryz.lays185.a3
 z3:=Tryz.lays185.z3
 v3:=Tryz.lays185.v3
 t4:=Tryz.lays185.t4
 a4:=Tryz.lays185.a4
 z4:=Tryz.lays185.z4
 v4:=Tryz.lays185.v4
 t5:=Tryz.lays185.t5
 a5:=Tryz.lays185.a5
 z5:=Tryz.lays185.z5
 v5:=Tryz.lays185.v5
 t9:=Tryz.lays185.t9
 a9:=Tryz.lays185.a9
 z9:=Tryz.lays185.z9
 v9:=Tryz.lays185.v9
 t22:=Tryz.lays185.t37
 a22:=Tryz.lays185.a37
 z22:=Tryz.lays185.z37
 v22:=Tryz.lays185.v37
 t33:=Tryz.lays185.t46
 a33:=Tryz.lays185.a46
 z33:=Tryz.lays185.z46
 v33:=Tryz.lays185.v46
 t39:=Tryz.lays185.t51
 a39:=Tryz.lays185.a51
 z39:=Tryz.lays185.z51
 v39:=Tryz.lays185.v51
 t40:=Tryz.lays185.t146
 a40:=Tryz.lays185.a146
 z40:=Tryz.lays185.z146
 v40:=Tryz.lays185.v146
 g0:=Tryz.lays185.g1
theorem H.maxG_eq2:Tryz.laysSlB13_ren.g 0=H.maxG:=by kernel_rfl
abbrev H.BCount.ps:Mk:=[some (.lf (.sl 1)),some (.lf (.sl 1))]
abbrev H.BCount.rs:Mk:=[some (.lf (.int .i64))]
noncomputable def bCountF (S:List LV) (x:List LV×List LV×Unit):Option ((Int×Unit)×List LV):=match (Classical.propDecidable (H.BIndexOk S x.1 x.2.1)).decide,strL x.1,strL x.2.1 with
 |true,some l,some m=>some (((Lib.count l m:Nat),()),S)
 |_,_,_=>none
noncomputable def H.BCount.fn (_k:Nat) (x:List LV×List LV×Unit) (S:List LV) (K:Int×Unit→List LV→Option R):Option R:=match bCountF S x with|some r=>K r.1 r.2|none=>none
noncomputable def H.BCount.h (k:Nat):Hd R:=hT H.BCount.ps fun x S K=>H.BCount.fn k x S fun r S=>K (resE H.BCount.rs r) S
theorem H.BCount.ok (k:Nat):HSound Tryz.prog 234 (H.BCount.h (R:=R) k) :=
 hand_okS (enters_ok Tryz.func234 (by kernel_rfl) (by kernel_rfl)) (ps:=H.BCount.ps) (rs:=H.BCount.rs) (g:=bCountF) (fun S x K=>by unfold H.BCount.fn;cases bCountF S x<;>rfl) fun x S r S' h=>by
  obtain ⟨xs,ys,u⟩:=x
  unfold bCountF at h
  dsimp only at h
  split at h
  ·rename_i l m hd hl hm
   cases h
   obtain ⟨h1,h2,h3,h4,h5⟩:H.BIndexOk S xs ys:=@of_decide_eq_true _ (Classical.propDecidable _) hd
   obtain ⟨zs,rfl,rfl⟩:=strL_ints hl
   obtain ⟨us,rfl,rfl⟩:=strL_ints hm
   rw [List.length_map] at h4 h5
   refine LCalls.sl2 (v:=.int .i64 _) (I:=NumAt H.maxG) rfl (fun c hc=>h1.at c hc) fun w A1 c1 A2 c2 ⟨m,hm⟩ hA hB=>?_
   obtain ⟨hcap,hmax,hnil,hsome,hcell⟩:=hA
   obtain ⟨hcap2,hmax2,hnil2,hsome2,hcell2⟩:=hB
   obtain ⟨b2,o2,rfl⟩:=hsome2 (by omega)
   cases A1 with
   |none =>
    obtain ⟨rfl,rfl⟩:=hnil rfl
    refine (Any.bytes_Count_nil_any H.countB (some ⟨b2,o2,none⟩) us.length c2 w h5 hmax2 fun hk=>⟨b2,o2,us.getD 0 0,rfl,by have:=hcell2 _ rfl 0 (by omega);rwa [Addr.add_lit,Nat.add_zero] at this⟩).mono fun e w' ⟨he,hw⟩=>⟨?_,hw▸RowKit.Below.refl _ _⟩
    rw [he]
    have:Lib.count (Lib.bytesOf []) (Lib.bytesOf us)=0:=by
     cases us with
     |nil=>simp at h5
     |cons u us=>rfl
    rw [this];rfl
   |some a =>
    exact (Any.bytes_Count_any H.countB a ⟨b2,o2,none⟩ zs.length c1 us.length c2 zs us m w rfl rfl (byteB_ints h2) (byteB_ints h3) (hcell a rfl) (hcell2 _ rfl) hcap h4 hmax2 h5 (by rw [H.maxG_eq2];exact hm)).mono fun e w' ⟨he,q,hw⟩=>⟨he,hw▸below_drewN w q⟩
  ·cases h
def bsL:List LV→Option (List (List UInt8))
 |[]=>some []
 | .str b::xs=>(bsL xs).map (b.data.toList::·)
 |_::_=>none
theorem bsL_some:∀{xs:List LV} {ss:List (List UInt8)},bsL xs=some ss→xs=strsL ss
 |[],_,h=>by cases h;rfl
 |x::xs,ss,h=>by
  unfold bsL at h
  split at h
  ·rename_i heq;cases heq
  ·rename_i b xs' heq
   cases heq
   cases hs:bsL xs with
   |none=>rw [hs] at h;cases h
   |some l =>
    rw [hs] at h
    cases h
    rw [bsL_some hs];rfl
  ·cases h
def rowAt (v:LV) (S:List LV):Option (Nat×(List LV→LV)×List (List UInt8)):=match v with
 | .osl id 0 1 n=>(match S.getD id .any with
  | .obj t xs=>(match bsL xs with|some ss=>if ss.length=n then some (id,.obj t,ss) else none|none=>none)
  | .vec t xs=>(match bsL xs with|some ss=>if ss.length=n then some (id,.vec t,ss) else none|none=>none)
  |_=>none)
 |_=>none
theorem rowAt_some {v:LV} {S:List LV} {id:Nat} {mk:List LV→LV} {ss:List (List UInt8)} (h:rowAt v S=some (id,mk,ss)):v = .osl id 0 1 ss.length∧S.getD id .any=mk (strsL ss)∧∃ty,MkO mk ty:=by
 unfold rowAt at h
 split at h
 ·split at h
  ·rename_i t xs hS
   split at h
   ·rename_i l hl
    split at h
    ·rename_i e
     cases h
     exact ⟨by rw [e],by rw [hS,bsL_some hl],t,.inl rfl⟩
    ·cases h
   ·cases h
  ·rename_i t xs hS
   split at h
   ·rename_i l hl
    split at h
    ·rename_i e
     cases h
     exact ⟨by rw [e],by rw [hS,bsL_some hl],t,.inr rfl⟩
    ·cases h
   ·cases h
  ·cases h
 ·cases h
abbrev H.SortStr.ps:Mk:=[some (.lf .raw)]
abbrev H.SortStr.rs:Mk:=[]
def sortStrF (S:List LV) (x:LV×Unit):Option (Unit×List LV):=match rowAt x.1 S with
 |some (id,mk,ss)=>if ss.length<4611686018427387904 then some ((),S.set id (mk (strsL (ss.mergeSort fun x y=>decide (x≤y))))) else none
 |none=>(match x.1 with | .nilsl=>some ((),S)|_=>none)
def H.SortStr.fn (_k:Nat) (x:LV×Unit) (S:List LV) (K:Unit→List LV→Option R):Option R:=match sortStrF S x with|some r=>K r.1 r.2|none=>none
def H.SortStr.h (k:Nat):Hd R:=hT H.SortStr.ps fun x S K=>H.SortStr.fn k x S fun r S=>K (resE H.SortStr.rs r) S
theorem H.SortStr.ok (k:Nat):HSound Tryz.prog 69 (H.SortStr.h (R:=R) k) :=
 hand_okS (enters_ok Tryz.func69 (by kernel_rfl) (by kernel_rfl)) (ps:=H.SortStr.ps) (rs:=H.SortStr.rs) (g:=sortStrF) (fun S x K=>by unfold H.SortStr.fn;cases sortStrF S x<;>rfl) fun x S r S' h=>by
  obtain ⟨v,u⟩:=x
  unfold sortStrF at h
  dsimp only at h
  split at h
  ·rename_i id mk ss hr
   split at h
   ·rename_i hn
    cases h
    obtain ⟨rfl,hS,ty,hm⟩:=rowAt_some hr
    refine LCalls.turnS (m:=0) hm hS (List.length_mergeSort _) (Nat.zero_le _) false fun w blk cap hH hblk hcap=>?_
    exact (Tryz.slices_Sort_string blk 0 cap ss w hH hblk hn).mono fun e w' ⟨he,n,os,hw⟩=>⟨he,n,os,hw⟩
   ·cases h
  ·cases v<;>try (cases h;done)
   ·cases h
    change LCalls Tryz.prog 69 [.nilsl] S (.tup []) S
    refine LCalls.ofS fun c vs o hl hrep hbd hsto=>?_
    obtain ⟨v0,rfl⟩:∃v0,vs=[v0]:=by
     match vs,hl with
     |[v0],_=>exact ⟨v0,rfl⟩
    have r0:=hrep 0 (by simp)
    simp only [List.getD_cons_zero] at r0
    have hv:v0 = .slice none 0 0:=by
     have r0:Rep c .nilsl v0 (o 0):=r0
     generalize o 0=O at r0
     cases r0;rfl
    subst hv
    refine (Tryz.slices_Sort_string_none none 0 c.w).mono ?_
    rintro e w' ⟨he,hw⟩
    subst hw
    exact ⟨c,.tuple #[],[],he,rfl,Ext.refl _ _,Rep.tup [] #[] (fun _=>[]) rfl (fun i hi=>by simp at hi),List.nodup_nil,by simp,rfl,hbd⟩
theorem grow_none (w:World):grow w #[]=w:=by unfold grow;simp
abbrev H.CompactStr.ps:Mk:=[some (.lf .raw)]
abbrev H.CompactStr.rs:Mk:=[some (.lf .raw)]
def compactS (ss:List (List UInt8)):List (List UInt8):=Lib.compactUpTo ss.toArray ss.toArray.size
def compactStrF (S:List LV) (x:LV×Unit):Option ((LV×Unit)×List LV):=match rowAt x.1 S with
 |some (id,mk,ss)=>if ss.length≤9223372036854775807 then some ((.osl id 0 1 (compactS ss).length,()),S.set id (mk (strsL (compactS ss++List.replicate (ss.length-(compactS ss).length) [])))) else none
 |none=>(match x.1 with | .nilsl=>some ((.nilsl,()),S)|_=>none)
def H.CompactStr.fn (_k:Nat) (x:LV×Unit) (S:List LV) (K:LV×Unit→List LV→Option R):Option R:=match compactStrF S x with|some r=>K r.1 r.2|none=>none
def H.CompactStr.h (k:Nat):Hd R:=hT H.CompactStr.ps fun x S K=>H.CompactStr.fn k x S fun r S=>K (resE H.CompactStr.rs r) S
theorem H.CompactStr.ok (k:Nat):HSound Tryz.prog 198 (H.CompactStr.h (R:=R) k) :=
 hand_okS (enters_ok Tryz.func198 (by kernel_rfl) (by kernel_rfl)) (ps:=H.CompactStr.ps) (rs:=H.CompactStr.rs) (g:=compactStrF) (fun S x K=>by unfold H.CompactStr.fn;cases compactStrF S x<;>rfl) fun x S r S' h=>by
  obtain ⟨v,u⟩:=x
  unfold compactStrF at h
  dsimp only at h
  split at h
  ·rename_i id mk ss hr
   split at h
   ·rename_i hn
    cases h
    obtain ⟨rfl,hS,ty,hm⟩:=rowAt_some hr
    have hle:(compactS ss).length≤ss.length:=by
     have:=Lib.compact_length_le ss
     exact this
    refine LCalls.turnS hm hS (by simp;omega) hle true fun w blk cap hH hblk hcap=>?_
    exact (Tryz.slices_Compact_string_arr blk 0 cap ss.toArray w hH (by simpa using hn) (by simpa using hcap)).mono fun e w' ⟨he,q,hw⟩=>⟨he,q,#[],hw.trans (grow_none _).symm⟩
   ·cases h
  ·cases v<;>try (cases h;done)
   ·cases h
    change LCalls Tryz.prog 198 [.nilsl] S .nilsl S
    refine LCalls.ofS fun c vs o hl hrep hbd hsto=>?_
    obtain ⟨v0,rfl⟩:∃v0,vs=[v0]:=by
     match vs,hl with
     |[v0],_=>exact ⟨v0,rfl⟩
    have r0:=hrep 0 (by simp)
    simp only [List.getD_cons_zero] at r0
    have hv:v0 = .slice none 0 0:=by
     have r0:Rep c .nilsl v0 (o 0):=r0
     generalize o 0=O at r0
     cases r0;rfl
    subst hv
    refine (Tryz.slices_Compact_string_empty none 0 c.w).mono ?_
    rintro e w' ⟨he,hw⟩
    subst hw
    exact ⟨c,.slice none 0 0,[],he,rfl,Ext.refl _ _,.nilsl,List.nodup_nil,by simp,rfl,hbd⟩
end
end Go.Lm
set_option maxRecDepth 100000
set_option linter.unusedVariables false
noncomputable section
namespace Go.Lm
open Go.Proofs
variable {R:Type}
namespace G.Qbp
abbrev ps:Mk:=sS []
abbrev rs:Mk:=sB []
abbrev mr:Mk:=n2 (sB (n8 []))
def C (k:Nat):List (Ent PG R):=[⟨102,H.Trim.h k,H.Trim.ok k⟩]
def fn (k:Nat) (x:(BA×U1)) (S:LL) (K:Kt R (Bool×U1)):Option R :=
 ifB ((x.1.size:Int)==16) (H.Trim.fn k (x.1,(bs [48,49,50,51,52,53,54,55,56,57,97,98,99,100,101,102]),()) S fun r1 S=>K ((strEq r1.1 (bs [])),()) S) (K (false,()) S)
def en (k:Nat):Ent PG R:=mkFn T_ok Tryz.func73 ps rs (C k) (.seq .auto (.seq .auto (.mask mr .auto))) ⟨tr,tr,tr⟩ (fn k)
end G.Qbp
namespace G.Qau
abbrev ps:Mk:=sS []
abbrev rs:Mk:=sB []
abbrev e0:Mk:=sS (nM 27 [])
abbrev m0:Mk:=sS (n4 (sI (sI (nM 21 []))))
abbrev mr:Mk:=n2 (sB (nM 25 []))
abbrev T0:=BA×Int×Int×U1
def C (k:Nat):List (Ent PG R):=[]
def b0 (k:Nat) (J0:Kt R (BA×U1)) (Jret:Kt R (Bool×U1)) (rec:Kt R T0) (x:T0) (S:LL):Option R :=
 ifB (decide (x.2.2.1<x.2.1)) (idxStr x.1 x.2.2.1 fun c1=>ifB (decide (c1<33)) (Jret (false,()) S) (idxStr x.1 x.2.2.1 fun c2=>ifB (decide (c2>126)) (Jret (false,()) S) (rec (x.1,x.2.1,(IntKind.wrap .i64 (x.2.2.1+1)),()) S))) (J0 (x.1,()) S)
def L0 (k:Nat):Pc PG R (.loop (su Tryz.f126 37)):=mkLoop T_ok (C k) _ m0 k (.seq .auto (.seq (.cond .auto (.mask e0 .auto)) (.seq (.block (.seq .auto (.seq .auto (.cond (.seq .auto (.mask mr .auto)) .auto)))) .auto))) ⟨tr,⟨tr,tr⟩,⟨tr,tr,⟨tr,tr⟩,tr⟩,tr⟩ (fun K=>b0 k (kX K 0 e0) (kR K mr))
def fn (k:Nat) (x:(BA×U1)) (S:LL) (K:Kt R (Bool×U1)):Option R :=
 rounds (b0 k (fun o3 S=>ifB (decide ((o3.1.size:Int)≥1)) (K ((decide ((o3.1.size:Int)≤300)),()) S) (K (false,()) S)) K) k (x.1,(x.1.size:Int),0,()) S
def en (k:Nat):Ent PG R:=mkFn T_ok Tryz.func126 ps rs (C k) (.seq .auto (.seq (.seq .auto (.block (.piece (L0 k).h))) (.seq .auto (.mask mr .auto)))) ⟨tr,⟨tr,(L0 k).ok⟩,tr,tr⟩ (fn k)
end G.Qau
namespace G.Qak
abbrev ps:Mk:=sS []
abbrev rs:Mk:=sB []
abbrev mr:Mk:=n2 (sB (n3 []))
def C (k:Nat):List (Ent PG R):=[Qau.en k]
def fn (k:Nat) (x:(BA×U1)) (S:LL) (K:Kt R (Bool×U1)):Option R :=
 Qau.fn k x S fun r1 S=>K ((!r1.1),()) S
def en (k:Nat):Ent PG R:=mkFn T_ok Tryz.func125 ps rs (C k) (.seq .auto (.seq .auto (.mask mr .auto))) ⟨tr,tr,tr⟩ (fn k)
end G.Qak
namespace G.Qcz
abbrev ps:Mk:=sL 1 (sh (.fn 125 []) [])
abbrev rs:Mk:=sI []
abbrev e0:Mk:=nM 19 []
abbrev m0:Mk:=sL 1 (sh (.fn 125 []) (n5 (sI (sI (nX [])))))
abbrev mr:Mk:=n4 (sI (nM 14 []))
abbrev T0:=LL×(U1)×Int×Int×U1
def C (k:Nat):List (Ent PG R):=[Qak.en k]
def b0 (k:Nat) (J0:Kt R (U1)) (Jret:Kt R (Int×U1)) (rec:Kt R T0) (x:T0) (S:LL):Option R :=
 ifB (decide (x.2.2.2.1<x.2.2.1)) (idxL x.1 x.2.2.2.1 fun v1=>asStr (leaf v1 0) fun s2=>Qak.fn k (s2,()) S fun r3 S=>ifB r3.1 (Jret x.2.2.2 S) (rec (x.1,(()),x.2.2.1,(IntKind.wrap .i64 (x.2.2.2.1+1)),()) S)) (J0 (()) S)
def L0 (k:Nat):Pc PG R (.loop (su Tryz.f89 37)):=mkLoop T_ok (C k) _ m0 k (.seq .auto (.seq (.cond .auto (.mask e0 .auto)) (.seq (.block (.seq .auto (.seq .auto (.cond (.seq .auto (.mask mr .auto)) .auto)))) .auto))) ⟨tr,⟨tr,tr⟩,⟨tr,tr,⟨tr,tr⟩,tr⟩,tr⟩ (fun K=>b0 k (kX K 0 e0) (kR K mr))
def fn (k:Nat) (x:(LL×(U1)×U1)) (S:LL) (K:Kt R (Int×U1)):Option R :=
 rounds (b0 k (fun o4 S=>K (-1,()) S) K) k (x.1,(()),(x.1.length:Int),0,()) S
def en (k:Nat):Ent PG R:=mkFn T_ok Tryz.func89 ps rs (C k) (.seq .auto (.seq (.seq .auto (.block (.piece (L0 k).h))) (.seq .auto (.mask mr .auto)))) ⟨tr,⟨tr,(L0 k).ok⟩,tr,tr⟩ (fn k)
end G.Qcz
namespace G.Qcu
abbrev ps:Mk:=sL 1 (sh (.fn 125 []) [])
abbrev rs:Mk:=sB []
abbrev mr:Mk:=n4 (sB (n4 []))
def C (k:Nat):List (Ent PG R):=[Qcz.en k]
def fn (k:Nat) (x:(LL×(U1)×U1)) (S:LL) (K:Kt R (Bool×U1)):Option R :=
 Qcz.fn k (x.1,(()),()) S fun r1 S=>K ((decide (r1.1≥0)),()) S
def en (k:Nat):Ent PG R:=mkFn T_ok Tryz.func64 ps rs (C k) (.seq .auto (.seq .auto (.mask mr .auto))) ⟨tr,tr,tr⟩ (fn k)
end G.Qcu
namespace G.Qar
abbrev ps:Mk:=sS []
abbrev rs:Mk:=sS []
abbrev c0:Mk:=n3 (sS (n2 (sB (nM 22 []))))
abbrev c1:Mk:=n3 (sS (n9 (sB (nM 15 []))))
abbrev c2:Mk:=n3 (sS (nM 11 (sB (nM 13 []))))
abbrev c3:Mk:=n3 (sS (nM 13 (sB (nM 11 []))))
abbrev c4:Mk:=n3 (sS (nM 15 (sB (n9 []))))
abbrev c5:Mk:=n3 (sS (nM 17 (sB (n7 []))))
abbrev c6:Mk:=n3 (sS (nM 19 (sB (n5 []))))
abbrev c7:Mk:=n3 (sS (nM 21 (sB (n3 []))))
abbrev z0:Mk:=nM 29 []
abbrev mr:Mk:=n2 (sS (nM 26 []))
abbrev T1:=BA×U1
abbrev T0:=BA×Bool×U1
def C (k:Nat):List (Ent PG R):=[]
def q7 (k:Nat) (Jnrm:Kt R (U1)) (Jret:Kt R T1) (x:T0) (S:LL):Option R :=
 ifB x.2.1 (Jret ((bs [112,112]),()) S) (ifB (strEq x.1 (bs [102,97,105,108])) (Jret ((bs [110]),()) S) (Jnrm (()) S))
def Q7 (k:Nat):Pc PG R (su Tryz.f127 4194293):=mkEnd T_ok (C k) _ c7 z0 (.cond (.seq .auto (.mask mr .auto)) (.seq .auto (.cond (.seq .auto (.mask mr .auto)) .auto))) ⟨⟨tr,tr⟩,tr,⟨tr,tr⟩,tr⟩ (fun x S K=>q7 k (kN K z0) (kR K mr) x S)
def q6 (k:Nat) (Jnrm:Kt R (U1)) (Jret:Kt R T1) (x:T0) (S:LL):Option R :=
 ifB x.2.1 (Jret ((bs [112]),()) S) (q7 k (fun o1 S=>Jnrm (()) S) Jret (x.1,(strEq x.1 (bs [115,97,109,101])),()) S)
def Q6 (k:Nat):Pc PG R (su Tryz.f127 1048565):=mkEnd T_ok (C k) _ c6 z0 (.cond (.seq .auto (.mask mr .auto)) (.seq .auto (.piece (Q7 k).h))) ⟨⟨tr,tr⟩,tr,(Q7 k).ok⟩ (fun x S K=>q6 k (kN K z0) (kR K mr) x S)
def q5 (k:Nat) (Jnrm:Kt R (U1)) (Jret:Kt R T1) (x:T0) (S:LL):Option R :=
 ifB x.2.1 (Jret ((bs [119,43]),()) S) (q6 k (fun o3 S=>Jnrm (()) S) Jret (x.1,(strEq x.1 (bs [110,101,101,100])),()) S)
def Q5 (k:Nat):Pc PG R (su Tryz.f127 262133):=mkEnd T_ok (C k) _ c5 z0 (.cond (.seq .auto (.mask mr .auto)) (.seq .auto (.piece (Q6 k).h))) ⟨⟨tr,tr⟩,tr,(Q6 k).ok⟩ (fun x S K=>q5 k (kN K z0) (kR K mr) x S)
def q4 (k:Nat) (Jnrm:Kt R (U1)) (Jret:Kt R T1) (x:T0) (S:LL):Option R :=
 ifB x.2.1 (Jret ((bs [112,119]),()) S) (q5 k (fun o5 S=>Jnrm (()) S) Jret (x.1,(strEq x.1 (bs [116,101,108,108])),()) S)
def Q4 (k:Nat):Pc PG R (su Tryz.f127 65525):=mkEnd T_ok (C k) _ c4 z0 (.cond (.seq .auto (.mask mr .auto)) (.seq .auto (.piece (Q5 k).h))) ⟨⟨tr,tr⟩,tr,(Q5 k).ok⟩ (fun x S K=>q4 k (kN K z0) (kR K mr) x S)
def q3 (k:Nat) (Jnrm:Kt R (U1)) (Jret:Kt R T1) (x:T0) (S:LL):Option R :=
 ifB x.2.1 (Jret ((bs [112,112,112,43]),()) S) (q4 k (fun o7 S=>Jnrm (()) S) Jret (x.1,(strEq x.1 (bs [118,97,114])),()) S)
def Q3 (k:Nat):Pc PG R (su Tryz.f127 16373):=mkEnd T_ok (C k) _ c3 z0 (.cond (.seq .auto (.mask mr .auto)) (.seq .auto (.piece (Q4 k).h))) ⟨⟨tr,tr⟩,tr,(Q4 k).ok⟩ (fun x S K=>q3 k (kN K z0) (kR K mr) x S)
def q2 (k:Nat) (Jnrm:Kt R (U1)) (Jret:Kt R T1) (x:T0) (S:LL):Option R :=
 ifB x.2.1 (Jret ((bs [112,119,119,112]),()) S) (q3 k (fun o9 S=>Jnrm (()) S) Jret (x.1,(strEq x.1 (bs [112,105,99,107])),()) S)
def Q2 (k:Nat):Pc PG R (su Tryz.f127 4085):=mkEnd T_ok (C k) _ c2 z0 (.cond (.seq .auto (.mask mr .auto)) (.seq .auto (.piece (Q3 k).h))) ⟨⟨tr,tr⟩,tr,(Q3 k).ok⟩ (fun x S K=>q2 k (kN K z0) (kR K mr) x S)
def q1 (k:Nat) (Jnrm:Kt R (U1)) (Jret:Kt R T1) (x:T0) (S:LL):Option R :=
 ifB x.2.1 (Jret ((bs [112,110,112]),()) S) (q2 k (fun o11 S=>Jnrm (()) S) Jret (x.1,(strEq x.1 (bs [99,104,97,110,103,101])),()) S)
def Q1 (k:Nat):Pc PG R (su Tryz.f127 1013):=mkEnd T_ok (C k) _ c1 z0 (.cond (.seq .auto (.mask mr .auto)) (.seq .auto (.piece (Q2 k).h))) ⟨⟨tr,tr⟩,tr,(Q2 k).ok⟩ (fun x S K=>q1 k (kN K z0) (kR K mr) x S)
def q0 (k:Nat) (Jnrm:Kt R (U1)) (Jret:Kt R T1) (x:T0) (S:LL):Option R :=
 ifB x.2.1 (Jret ((bs [112,112]),()) S) (q1 k (fun o13 S=>Jnrm (()) S) Jret (x.1,(strEq x.1 (bs [102,105,114,115,116])),()) S)
def Q0 (k:Nat):Pc PG R (su Tryz.f127 245):=mkEnd T_ok (C k) _ c0 z0 (.cond (.seq .auto (.mask mr .auto)) (.seq .auto (.piece (Q1 k).h))) ⟨⟨tr,tr⟩,tr,(Q1 k).ok⟩ (fun x S K=>q0 k (kN K z0) (kR K mr) x S)
def fn (k:Nat) (x:T1) (S:LL) (K:Kt R T1):Option R :=
 ifB (strEq x.1 (bs [106,111,105,110])) (K ((bs [112,112,43]),()) S) (ifB (strEq x.1 (bs [115,111,114,116])) (q0 k (fun o15 S=>K ((bs []),()) S) K (x.1,(strEq x.1 (bs [115,111,114,116])),()) S) (ifB (strEq x.1 (bs [99,111,117,110,116])) (q0 k (fun o17 S=>K ((bs []),()) S) K (x.1,(strEq x.1 (bs [99,111,117,110,116])),()) S) (ifB (strEq x.1 (bs [101,120,112,97,110,100])) (q0 k (fun o19 S=>K ((bs []),()) S) K (x.1,(strEq x.1 (bs [101,120,112,97,110,100])),()) S) (ifB (strEq x.1 (bs [109,97,107,101])) (q0 k (fun o21 S=>K ((bs []),()) S) K (x.1,(strEq x.1 (bs [109,97,107,101])),()) S) (ifB (strEq x.1 (bs [100,105,103,101,115,116])) (q0 k (fun o23 S=>K ((bs []),()) S) K (x.1,(strEq x.1 (bs [100,105,103,101,115,116])),()) S) (q0 k (fun o25 S=>K ((bs []),()) S) K (x.1,(strEq x.1 (bs [108,105,115,116])),()) S))))))
def en (k:Nat):Ent PG R:=mkFn T_ok Tryz.func127 ps rs (C k) (.seq .auto (.seq (.seq .auto (.block (.seq .auto (.cond (.seq .auto (.mask mr .auto)) (.seq (.seq .auto (.cond .auto (.seq .auto (.cond .auto (.seq .auto (.cond .auto (.seq .auto (.cond .auto (.seq .auto (.cond .auto .auto)))))))))) (.piece (Q0 k).h)))))) (.seq .auto (.mask mr .auto)))) ⟨tr,⟨tr,tr,⟨tr,tr⟩,⟨tr,tr,tr,tr,tr,tr,tr,tr,tr,tr,tr⟩,(Q0 k).ok⟩,tr,tr⟩ (fn k)
end G.Qar
namespace G.Qcd
abbrev ps:Mk:=sS (sS [])
abbrev rs:Mk:=sB []
abbrev mr:Mk:=n4 (sB (nM 16 []))
def C (k:Nat):List (Ent PG R):=[]
def fn (k:Nat) (x:(BA×BA×U1)) (S:LL) (K:Kt R (Bool×U1)):Option R :=
 ifB (decide ((x.1.size:Int)≥(x.2.1.size:Int))) (slStr x.1 (IntKind.wrap .i64 ((x.1.size:Int)-(x.2.1.size:Int))) (x.1.size:Int) fun s1=>K ((strEq s1 x.2.1),()) S) (K (false,()) S)
def en (k:Nat):Ent PG R:=mkFn T_ok Tryz.func80 ps rs (C k) (.seq .auto (.seq .auto (.mask mr .auto))) ⟨tr,tr,tr⟩ (fn k)
end G.Qcd
namespace G.Qcb
abbrev ps:Mk:=sS (sS [])
abbrev rs:Mk:=sS (sB [])
abbrev mr:Mk:=n4 (sS (sB (nM 12 [])))
def C (k:Nat):List (Ent PG R):=[Qcd.en k]
def fn (k:Nat) (x:(BA×BA×U1)) (S:LL) (K:Kt R (BA×Bool×U1)):Option R :=
 Qcd.fn k x S fun r1 S=>ifB (!r1.1) (K (x.1,false,()) S) (slStr x.1 (0:Int) (IntKind.wrap .i64 ((x.1.size:Int)-(x.2.1.size:Int))) fun s2=>K (s2,true,()) S)
def en (k:Nat):Ent PG R:=mkFn T_ok Tryz.func225 ps rs (C k) (.seq .auto (.seq (.seq .auto (.cond (.seq .auto (.mask mr .auto)) .auto)) (.seq .auto (.mask mr .auto)))) ⟨tr,⟨tr,⟨tr,tr⟩,tr⟩,tr,tr⟩ (fn k)
end G.Qcb
namespace G.Qdo
abbrev ps:Mk:=sS (sS [])
abbrev rs:Mk:=sS (sB [])
abbrev mr:Mk:=n4 (sS (sB (n5 [])))
def C (k:Nat):List (Ent PG R):=[Qcb.en k]
def fn (k:Nat) (x:(BA×BA×U1)) (S:LL) (K:Kt R (BA×Bool×U1)):Option R :=
 Qcb.fn k x S K
def en (k:Nat):Ent PG R:=mkFn T_ok Tryz.func184 ps rs (C k) (.seq .auto (.seq .auto (.mask mr .auto))) ⟨tr,tr,tr⟩ (fn k)
end G.Qdo
namespace G.Qdt
abbrev ps:Mk:=sS (sS [])
abbrev rs:Mk:=sL 1 []
abbrev mr:Mk:=n4 (sL 1 (n3 []))
def C (k:Nat):List (Ent PG R):=[⟨155,H.genSplit.h k,H.genSplit.ok k⟩]
def fn (k:Nat) (x:(BA×BA×U1)) (S:LL) (K:Kt R (LL×U1)):Option R :=
 H.genSplit.fn k (x.1,x.2.1,0,(-1:Int),()) S K
def en (k:Nat):Ent PG R:=mkFn T_ok Tryz.func100 ps rs (C k) (.seq .auto (.seq .auto (.mask mr .auto))) ⟨tr,tr,tr⟩ (fn k)
end G.Qdt
namespace G.Qdq
abbrev ps:Mk:=sS (sh (.lf (.int .u8)) [])
abbrev rs:Mk:=sI []
abbrev mr:Mk:=n4 (sI (n3 []))
def C (k:Nat):List (Ent PG R):=[⟨241,H.IndexByte.h k,H.IndexByte.ok k⟩]
def fn (k:Nat) (x:(BA×Int×U1)) (S:LL) (K:Kt R (Int×U1)):Option R :=
 H.IndexByte.fn k x S K
def en (k:Nat):Ent PG R:=mkFn T_ok Tryz.func211 ps rs (C k) (.seq .auto (.seq .auto (.mask mr .auto))) ⟨tr,tr,tr⟩ (fn k)
end G.Qdq
namespace G.Qbv
abbrev ps:Mk:=sh (.lf (.int .u8)) []
abbrev rs:Mk:=sB []
abbrev mr:Mk:=n2 (sB (nM 27 []))
def C (k:Nat):List (Ent PG R):=[Qdq.en k]
def fn (k:Nat) (x:(Int×U1)) (S:LL) (K:Kt R (Bool×U1)):Option R :=
 ifB (decide (x.1≥97)) (ifB (decide (x.1≤122)) (K (true,()) S) (ifB (decide (x.1≥65)) (ifB (decide (x.1≤90)) (K (true,()) S) (ifB (decide (x.1≥48)) (ifB (decide (x.1≤57)) (K (true,()) S) (Qdq.fn k ((bs [46,95,45,43]),x) S fun r1 S=>K ((decide (r1.1≥0)),()) S)) (Qdq.fn k ((bs [46,95,45,43]),x) S fun r2 S=>K ((decide (r2.1≥0)),()) S))) (ifB (decide (x.1≥48)) (ifB (decide (x.1≤57)) (K (true,()) S) (Qdq.fn k ((bs [46,95,45,43]),x) S fun r3 S=>K ((decide (r3.1≥0)),()) S)) (Qdq.fn k ((bs [46,95,45,43]),x) S fun r4 S=>K ((decide (r4.1≥0)),()) S)))) (ifB (decide (x.1≥65)) (ifB (decide (x.1≤90)) (K (true,()) S) (ifB (decide (x.1≥48)) (ifB (decide (x.1≤57)) (K (true,()) S) (Qdq.fn k ((bs [46,95,45,43]),x) S fun r5 S=>K ((decide (r5.1≥0)),()) S)) (Qdq.fn k ((bs [46,95,45,43]),x) S fun r6 S=>K ((decide (r6.1≥0)),()) S))) (ifB (decide (x.1≥48)) (ifB (decide (x.1≤57)) (K (true,()) S) (Qdq.fn k ((bs [46,95,45,43]),x) S fun r7 S=>K ((decide (r7.1≥0)),()) S)) (Qdq.fn k ((bs [46,95,45,43]),x) S fun r8 S=>K ((decide (r8.1≥0)),()) S)))
def en (k:Nat):Ent PG R:=mkFn T_ok Tryz.func156 ps rs (C k) (.seq .auto (.seq .auto (.mask mr .auto))) ⟨tr,tr,tr⟩ (fn k)
end G.Qbv
namespace G.Qbw
abbrev ps:Mk:=sS []
abbrev rs:Mk:=sB []
abbrev e0:Mk:=sS (nM 24 [])
abbrev m0:Mk:=sS (n4 (sI (sI (nM 18 []))))
abbrev mr:Mk:=n2 (sB (nM 22 []))
abbrev T0:=BA×Int×Int×U1
def C (k:Nat):List (Ent PG R):=[Qbv.en k]
def b0 (k:Nat) (J0:Kt R (BA×U1)) (Jret:Kt R (Bool×U1)) (rec:Kt R T0) (x:T0) (S:LL):Option R :=
 ifB (decide (x.2.2.1<x.2.1)) (idxStr x.1 x.2.2.1 fun c1=>Qbv.fn k (c1,()) S fun r2 S=>ifB (!r2.1) (Jret (false,()) S) (rec (x.1,x.2.1,(IntKind.wrap .i64 (x.2.2.1+1)),()) S)) (J0 (x.1,()) S)
def L0 (k:Nat):Pc PG R (.loop (su Tryz.f101 37)):=mkLoop T_ok (C k) _ m0 k (.seq .auto (.seq (.cond .auto (.mask e0 .auto)) (.seq (.block (.seq .auto (.seq .auto (.cond (.seq .auto (.mask mr .auto)) .auto)))) .auto))) ⟨tr,⟨tr,tr⟩,⟨tr,tr,⟨tr,tr⟩,tr⟩,tr⟩ (fun K=>b0 k (kX K 0 e0) (kR K mr))
def fn (k:Nat) (x:(BA×U1)) (S:LL) (K:Kt R (Bool×U1)):Option R :=
 rounds (b0 k (fun o3 S=>ifB (!(strEq o3.1 (bs []))) (ifB (!(strEq o3.1 (bs [46]))) (K ((!(strEq o3.1 (bs [46,46]))),()) S) (K (false,()) S)) (K (false,()) S)) K) k (x.1,(x.1.size:Int),0,()) S
def en (k:Nat):Ent PG R:=mkFn T_ok Tryz.func101 ps rs (C k) (.seq .auto (.seq (.seq .auto (.block (.piece (L0 k).h))) (.seq .auto (.mask mr .auto)))) ⟨tr,⟨tr,(L0 k).ok⟩,tr,tr⟩ (fn k)
end G.Qbw
namespace G.Qbq
abbrev ps:Mk:=sS []
abbrev rs:Mk:=sB []
abbrev e0:Mk:=nM 24 []
abbrev m0:Mk:=nM 14 (sL 1 (sI (sI (n7 []))))
abbrev mr:Mk:=n2 (sB (nM 21 []))
abbrev T0:=LL×Int×Int×U1
def C (k:Nat):List (Ent PG R):=[Qdt.en k,Qbw.en k]
def b0 (k:Nat) (J0:Kt R (U1)) (Jret:Kt R (Bool×U1)) (rec:Kt R T0) (x:T0) (S:LL):Option R :=
 ifB (decide (x.2.2.1<x.2.1)) (idxL x.1 x.2.2.1 fun v2=>asStr (leaf v2 0) fun s3=>Qbw.fn k (s3,()) S fun r4 S=>ifB (!r4.1) (Jret (false,()) S) (rec (x.1,x.2.1,(IntKind.wrap .i64 (x.2.2.1+1)),()) S)) (J0 (()) S)
def L0 (k:Nat):Pc PG R (.loop (su Tryz.f72 75)):=mkLoop T_ok (C k) _ m0 k (.seq .auto (.seq (.cond .auto (.mask e0 .auto)) (.seq (.block (.seq .auto (.seq .auto (.cond (.seq .auto (.mask mr .auto)) .auto)))) .auto))) ⟨tr,⟨tr,tr⟩,⟨tr,tr,⟨tr,tr⟩,tr⟩,tr⟩ (fun K=>b0 k (kX K 0 e0) (kR K mr))
def fn (k:Nat) (x:(BA×U1)) (S:LL) (K:Kt R (Bool×U1)):Option R :=
 ifB (decide ((x.1.size:Int)<1)) (K (false,()) S) (ifB (decide ((x.1.size:Int)>200)) (K (false,()) S) (Qdt.fn k (x.1,(bs [47]),()) S fun r1 S=>rounds (b0 k (fun o5 S=>K (true,()) S) K) k (r1.1,(r1.1.length:Int),0,()) S))
def en (k:Nat):Ent PG R:=mkFn T_ok Tryz.func72 ps rs (C k) (.seq .auto (.seq (.seq .auto (.cond (.seq .auto (.mask mr .auto)) .auto)) (.seq (.seq .auto (.block (.piece (L0 k).h))) (.seq .auto (.mask mr .auto))))) ⟨tr,⟨tr,⟨tr,tr⟩,tr⟩,⟨tr,(L0 k).ok⟩,tr,tr⟩ (fn k)
end G.Qbq
namespace G.Qat
abbrev ps:Mk:=sS (sI [])
abbrev rs:Mk:=sB []
abbrev mr:Mk:=n4 (sB (nM 23 []))
def C (k:Nat):List (Ent PG R):=[⟨102,H.Trim.h k,H.Trim.ok k⟩]
def fn (k:Nat) (x:(BA×Int×U1)) (S:LL) (K:Kt R (Bool×U1)):Option R :=
 ifB (decide ((x.1.size:Int)≥1)) (ifB (decide ((x.1.size:Int)≤x.2.1)) (H.Trim.fn k (x.1,(bs [48,49,50,51,52,53,54,55,56,57]),()) S fun r1 S=>ifB (strEq r1.1 (bs [])) (idxStr x.1 (0:Int) fun c2=>ifB (c2 != 48) (K (true,()) S) (K ((strEq x.1 (bs [48])),()) S)) (K (false,()) S)) (K (false,()) S)) (K (false,()) S)
def en (k:Nat):Ent PG R:=mkFn T_ok Tryz.func185 ps rs (C k) (.seq .auto (.seq .auto (.mask mr .auto))) ⟨tr,tr,tr⟩ (fn k)
end G.Qat
namespace G.Qas
abbrev ps:Mk:=sL 1 (sS [])
abbrev rs:Mk:=sB []
abbrev c0:Mk:=n1 (sS (nM 27 (sL 1 (sI (sI (nM 22 []))))))
abbrev c1:Mk:=sL 1 (sS (nM 52 []))
abbrev c2:Mk:=n1 (sS (nM 27 (sL 1 (sI (sI (sB (nM 21 [])))))))
abbrev c4:Mk:=n1 (sS (n4 (sI (sS (nM 21 (sL 1 (sI (sI (nM 22 [])))))))))
abbrev c5:Mk:=n1 (sS (n5 (sS (nM 21 (sL 1 (sI (sI (nX (sh (.lf (.int .u8)) (nM 11 []))))))))))
abbrev c6:Mk:=n1 (sS (n5 (sS (nM 21 (sL 1 (sI (sI (nX (sh (.lf (.int .u8)) (sB (nX [])))))))))))
abbrev c7:Mk:=n1 (sS (n5 (sS (nM 21 (sL 1 (sI (sI (nM 16 (sB (n5 []))))))))))
abbrev z0:Mk:=nM 54 []
abbrev mr:Mk:=n4 (sB (nM 49 []))
abbrev T1:=Bool×U1
abbrev T0:=BA×LL×Int×Int×U1
def C (k:Nat):List (Ent PG R):=[Qbq.en k,Qdo.en k,Qat.en k]
def q7 (k:Nat) (Jnrm:Kt R T0) (Jret:Kt R T1) (x:(BA×BA×LL×Int×Int×Bool×U1)) (S:LL):Option R :=
 ifB x.2.2.2.2.2.1 (Qat.fn k (x.2.1,6,()) S fun r6 S=>ifB (!r6.1) (Jret (false,()) S) (Jnrm (x.1,x.2.2.1,x.2.2.2.1,x.2.2.2.2.1,()) S)) (Jnrm (x.1,x.2.2.1,x.2.2.2.1,x.2.2.2.2.1,()) S)
def Q7 (k:Nat):Pc PG R (su Tryz.f128 252311):=mkEnd T_ok (C k) _ c7 c0 (.cond (.seq .auto (.cond (.seq .auto (.mask mr .auto)) .auto)) .auto) ⟨⟨tr,⟨tr,tr⟩,tr⟩,tr⟩ (fun x S K=>q7 k (kN K c0) (kR K mr) x S)
def q6 (k:Nat) (Jnrm:Kt R T0) (Jret:Kt R T1) (x:(BA×BA×LL×Int×Int×Int×Bool×U1)) (S:LL):Option R :=
 ifB x.2.2.2.2.2.2.1 (Qbq.fn k (x.2.1,()) S fun r5 S=>ifB (!r5.1) (Jret (false,()) S) (Jnrm (x.1,x.2.2.1,x.2.2.2.1,x.2.2.2.2.1,()) S)) (q7 k Jnrm Jret (x.1,x.2.1,x.2.2.1,x.2.2.2.1,x.2.2.2.2.1,(x.2.2.2.2.2.1==110),()) S)
def Q6 (k:Nat):Pc PG R (su Tryz.f128 55703):=mkEnd T_ok (C k) _ c6 c0 (.cond (.seq .auto (.cond (.seq .auto (.mask mr .auto)) .auto)) (.seq .auto (.piece (Q7 k).h))) ⟨⟨tr,⟨tr,tr⟩,tr⟩,tr,(Q7 k).ok⟩ (fun x S K=>q6 k (kN K c0) (kR K mr) x S)
def q5 (k:Nat) (Jnrm:Kt R T0) (Jret:Kt R T1) (x:(BA×BA×LL×Int×Int×Int×U1)) (S:LL):Option R :=
 q6 k Jnrm Jret (x.1,x.2.1,x.2.2.1,x.2.2.2.1,x.2.2.2.2.1,x.2.2.2.2.2.1,(x.2.2.2.2.2.1==112),()) S
def Q5 (k:Nat):Pc PG R (su Tryz.f128 14743):=mkEnd T_ok (C k) _ c5 c0 (.block (.seq .auto (.piece (Q6 k).h))) ⟨tr,(Q6 k).ok⟩ (fun x S K=>q5 k (kN K c0) (kR K mr) x S)
def q4 (k:Nat) (Jnrm:Kt R T0) (Jret:Kt R T1) (x:(BA×Int×BA×LL×Int×Int×U1)) (S:LL):Option R :=
 idxStr x.1 (minI x.2.1 (IntKind.wrap .i64 ((x.1.size:Int)-1))) fun c4=>q5 k Jnrm Jret (x.1,x.2.2.1,x.2.2.2.1,x.2.2.2.2.1,x.2.2.2.2.2.1,c4,()) S
def Q4 (k:Nat):Pc PG R (su Tryz.f128 6551):=mkEnd T_ok (C k) _ c4 c0 (.seq .auto (.piece (Q5 k).h)) ⟨tr,(Q5 k).ok⟩ (fun x S K=>q4 k (kN K c0) (kR K mr) x S)
def q3 (k:Nat) (Jnrm:Kt R T0) (Jret:Kt R T1) (x:T0) (S:LL):Option R :=
 idxL x.2.1 x.2.2.2.1 fun v2=>asStr (leaf v2 0) fun s3=>q4 k (fun o13 S=>Jnrm (o13.1,o13.2.1,o13.2.2.1,(IntKind.wrap .i64 (o13.2.2.2.1+1)),()) S) Jret (x.1,x.2.2.2.1,s3,x.2) S
def Q3 (k:Nat):Pc PG R (su Tryz.f128 919):=mkEnd T_ok (C k) _ c0 c0 (.seq (.block (.seq .auto (.piece (Q4 k).h))) .auto) ⟨⟨tr,(Q4 k).ok⟩,tr⟩ (fun x S K=>q3 k (kN K c0) (kR K mr) x S)
def q2 (k:Nat) (Jnrm:Kt R T0) (J0:Kt R (U1)) (Jret:Kt R T1) (x:(BA×LL×Int×Int×Bool×U1)) (S:LL):Option R :=
 ifB x.2.2.2.2.1 (q3 k Jnrm Jret (x.1,x.2.1,x.2.2.1,x.2.2.2.1,()) S) (J0 (()) S)
def Q2 (k:Nat):Pc PG R (su Tryz.f128 407):=mkEnd T_ok (C k) _ c2 c0 (.seq (.cond .auto (.mask z0 .auto)) (.piece (Q3 k).h)) ⟨⟨tr,tr⟩,(Q3 k).ok⟩ (fun x S K=>q2 k (kN K c0) (kX K 0 z0) (kR K mr) x S)
def b0 (k:Nat) (J0:Kt R (U1)) (Jret:Kt R T1) (rec:Kt R T0) (x:T0) (S:LL):Option R :=
 q2 k rec (fun o18 S=>J0 (()) S) Jret (x.1,x.2.1,x.2.2.1,x.2.2.2.1,(decide (x.2.2.2.1<x.2.2.1)),()) S
def L0 (k:Nat):Pc PG R (.loop (su Tryz.f128 151)):=mkLoop T_ok (C k) _ c0 k (.seq .auto (.piece (Q2 k).h)) ⟨tr,(Q2 k).ok⟩ (fun K=>b0 k (kX K 0 z0) (kR K mr))
def q0 (k:Nat) (Jnrm:Kt R (U1)) (Jret:Kt R T1) (x:T0) (S:LL):Option R :=
 rounds (b0 k (fun o20 S=>Jnrm (()) S) Jret) k x S
def Q0 (k:Nat):Pc PG R (su Tryz.f128 55):=mkEnd T_ok (C k) _ c0 z0 (.block (.piece (L0 k).h)) (L0 k).ok (fun x S K=>q0 k (kN K z0) (kR K mr) x S)
def q1 (k:Nat) (Jret:Kt R T1) (x:(LL×BA×U1)) (S:LL):Option R :=
 q0 k (fun o22 S=>Jret (true,()) S) Jret (x.2.1,x.1,(x.1.length:Int),0,()) S
def Q1 (k:Nat):Pc PG R (su Tryz.f128 15):=mkCut T_ok (C k) _ c1 (.seq (.seq .auto (.piece (Q0 k).h)) (.seq .auto (.mask mr .auto))) ⟨⟨tr,(Q0 k).ok⟩,tr,tr⟩ (fun x S K=>q1 k (kR K mr) x S)
def fn (k:Nat) (x:(LL×BA×U1)) (S:LL) (K:Kt R T1):Option R :=
 Qdo.fn k (x.2.1,(bs [43]),()) S fun r1 S=>ifB (decide ((x.1.length:Int)<(r1.1.size:Int))) (K (false,()) S) (ifB (decide ((x.1.length:Int)>(r1.1.size:Int))) (ifB (!r1.2.1) (K (false,()) S) (q1 k K (x.1,r1.1,()) S)) (q1 k K (x.1,r1.1,()) S))
def en (k:Nat):Ent PG R:=mkFn T_ok Tryz.func128 ps rs (C k) (.seq .auto (.seq (.own [(2,1)]) (.seq (.seq .auto (.cond (.seq .auto (.mask mr .auto)) .auto)) (.piece (Q1 k).h)))) ⟨tr,tr,⟨tr,⟨tr,tr⟩,tr⟩,(Q1 k).ok⟩ (fn k)
end G.Qas
namespace G.Qaj
abbrev ps:Mk:=sL 1 []
abbrev rs:Mk:=sI []
abbrev mr:Mk:=n2 (sI (nM 32 []))
def C (k:Nat):List (Ent PG R):=[Qcu.en k,Qar.en k,Qas.en k]
def fn (k:Nat) (x:(LL×U1)) (S:LL) (K:Kt R (Int×U1)):Option R :=
 ifB ((x.1.length:Int)==0) (K (9,()) S) (ifB (decide ((x.1.length:Int)>50)) (K (2,()) S) (Qcu.fn k (x.1,(()),()) S fun r1 S=>ifB r1.1 (K (3,()) S) (idxL x.1 (0:Int) fun v2=>asStr (leaf v2 0) fun s3=>Qar.fn k (s3,()) S fun r4 S=>ifB (strEq r4.1 (bs [])) (K (4,()) S) (slL x.1 (1:Int) (x.1.length:Int) fun l5=>Qas.fn k (l5,r4) S fun r6 S=>ifB (!r6.1) (K (3,()) S) (idxL x.1 (0:Int) fun v7=>asStr (leaf v7 0) fun s8=>ifB (strEq s8 (bs [102,97,105,108])) (idxL x.1 (1:Int) fun v9=>asStr (leaf v9 0) fun s10=>ifB (strEq s10 (bs [48])) (K (3,()) S) (K (0,()) S)) (K (0,()) S))))))
def en (k:Nat):Ent PG R:=mkFn T_ok Tryz.func86 ps rs (C k) (.seq .auto (.seq (.seq .auto (.cond (.seq .auto (.mask mr .auto)) .auto)) (.seq (.seq .auto (.cond (.seq .auto (.mask mr .auto)) .auto)) (.seq (.seq .auto (.cond (.seq .auto (.mask mr .auto)) .auto)) (.seq .auto (.seq (.seq .auto (.cond (.seq .auto (.mask mr .auto)) .auto)) (.seq (.seq .auto (.cond (.seq .auto (.mask mr .auto)) .auto)) (.seq .auto (.mask mr .auto))))))))) ⟨tr,⟨tr,⟨tr,tr⟩,tr⟩,⟨tr,⟨tr,tr⟩,tr⟩,⟨tr,⟨tr,tr⟩,tr⟩,tr,⟨tr,⟨tr,tr⟩,tr⟩,⟨tr,⟨tr,tr⟩,tr⟩,tr,tr⟩ (fn k)
end G.Qaj
namespace G.Qck
abbrev ps:Mk:=sh (.lf (.int .u8)) []
abbrev rs:Mk:=sB []
abbrev mr:Mk:=n2 (sB (n6 []))
def C (k:Nat):List (Ent PG R):=[]
def fn (k:Nat) (x:(Int×U1)) (S:LL) (K:Kt R (Bool×U1)):Option R :=
 ifB (decide (x.1≥97)) (K ((decide (x.1≤122)),()) S) (K (false,()) S)
def en (k:Nat):Ent PG R:=mkFn T_ok Tryz.func186 ps rs (C k) (.seq .auto (.seq .auto (.mask mr .auto))) ⟨tr,tr,tr⟩ (fn k)
end G.Qck
namespace G.Qcj
abbrev ps:Mk:=sh (.lf (.int .u8)) []
abbrev rs:Mk:=sB []
abbrev mr:Mk:=n2 (sB (n6 []))
def C (k:Nat):List (Ent PG R):=[]
def fn (k:Nat) (x:(Int×U1)) (S:LL) (K:Kt R (Bool×U1)):Option R :=
 ifB (decide (x.1≥48)) (K ((decide (x.1≤57)),()) S) (K (false,()) S)
def en (k:Nat):Ent PG R:=mkFn T_ok Tryz.func187 ps rs (C k) (.seq .auto (.seq .auto (.mask mr .auto))) ⟨tr,tr,tr⟩ (fn k)
end G.Qcj
namespace G.Qcl
abbrev ps:Mk:=[]
abbrev rs:Mk:=sO 9 1 []
abbrev mr:Mk:=sO 9 1 (n1 [])
def C (k:Nat):List (Ent PG R):=[]
def fn (k:Nat) (x:(U1)) (S:LL) (K:Kt R (LL×U1)):Option R :=
 K ([(.str (bs [109,97,99,114,111])),(.str (bs [102,111,114])),(.str (bs [105,110])),(.str (bs [105,102])),(.str (bs [101,108,115,101])),(.str (bs [117,115,101])),(.str (bs [102,105,108,101,115])),(.str (bs [99,104,111,111,115,101]))],()) S
def en (k:Nat):Ent PG R:=mkFn T_ok Tryz.func188 ps rs (C k) (.seq .auto (.seq .auto (.mask mr .auto))) ⟨tr,tr,tr⟩ (fn k)
end G.Qcl
namespace G.Qdb
abbrev ps:Mk:=sL 1 (sS [])
abbrev rs:Mk:=sI []
abbrev e0:Mk:=nM 19 []
abbrev m0:Mk:=sL 1 (sS (n5 (sI (sI (nX [])))))
abbrev mr:Mk:=n4 (sI (nM 14 []))
abbrev T0:=LL×BA×Int×Int×U1
def C (k:Nat):List (Ent PG R):=[]
def b0 (k:Nat) (J0:Kt R (U1)) (Jret:Kt R (Int×U1)) (rec:Kt R T0) (x:T0) (S:LL):Option R :=
 ifB (decide (x.2.2.2.1<x.2.2.1)) (idxL x.1 x.2.2.2.1 fun v1=>asStr (leaf v1 0) fun s2=>ifB (strEq x.2.1 s2) (Jret x.2.2.2 S) (rec (x.1,x.2.1,x.2.2.1,(IntKind.wrap .i64 (x.2.2.2.1+1)),()) S)) (J0 (()) S)
def L0 (k:Nat):Pc PG R (.loop (su Tryz.f46 37)):=mkLoop T_ok (C k) _ m0 k (.seq .auto (.seq (.cond .auto (.mask e0 .auto)) (.seq (.block (.seq .auto (.seq .auto (.cond (.seq .auto (.mask mr .auto)) .auto)))) .auto))) ⟨tr,⟨tr,tr⟩,⟨tr,tr,⟨tr,tr⟩,tr⟩,tr⟩ (fun K=>b0 k (kX K 0 e0) (kR K mr))
def fn (k:Nat) (x:(LL×BA×U1)) (S:LL) (K:Kt R (Int×U1)):Option R :=
 rounds (b0 k (fun o3 S=>K (-1,()) S) K) k (x.1,x.2.1,(x.1.length:Int),0,()) S
def en (k:Nat):Ent PG R:=mkFn T_ok Tryz.func46 ps rs (C k) (.seq .auto (.seq (.seq .auto (.block (.piece (L0 k).h))) (.seq .auto (.mask mr .auto)))) ⟨tr,⟨tr,(L0 k).ok⟩,tr,tr⟩ (fn k)
end G.Qdb
namespace G.Qcw
abbrev ps:Mk:=sL 1 (sS [])
abbrev rs:Mk:=sB []
abbrev mr:Mk:=n4 (sB (n4 []))
def C (k:Nat):List (Ent PG R):=[Qdb.en k]
def fn (k:Nat) (x:(LL×BA×U1)) (S:LL) (K:Kt R (Bool×U1)):Option R :=
 Qdb.fn k x S fun r1 S=>K ((decide (r1.1≥0)),()) S
def en (k:Nat):Ent PG R:=mkFn T_ok Tryz.func16 ps rs (C k) (.seq .auto (.seq .auto (.mask mr .auto))) ⟨tr,tr,tr⟩ (fn k)
end G.Qcw
namespace G.Qci
abbrev ps:Mk:=sS []
abbrev rs:Mk:=sB []
abbrev e0:Mk:=sS (nM 45 [])
abbrev m0:Mk:=sS (nM 18 (sI (sI (nM 25 []))))
abbrev mr:Mk:=n2 (sB (nM 43 []))
abbrev T0:=BA×Int×Int×U1
def C (k:Nat):List (Ent PG R):=[Qcw.en k,Qck.en k,Qcj.en k,Qcl.en k]
def b0 (k:Nat) (J0:Kt R (BA×U1)) (Jret:Kt R (Bool×U1)) (rec:Kt R T0) (x:T0) (S:LL):Option R :=
 ifB (decide (x.2.2.1<x.2.1)) (idxStr x.1 x.2.2.1 fun c3=>Qck.fn k (c3,()) S fun r4 S=>ifB (!r4.1) (idxStr x.1 x.2.2.1 fun c5=>Qcj.fn k (c5,()) S fun r6 S=>ifB (!r6.1) (idxStr x.1 x.2.2.1 fun c7=>ifB (c7 != 95) (Jret (false,()) S) (rec (x.1,x.2.1,(IntKind.wrap .i64 (x.2.2.1+1)),()) S)) (rec (x.1,x.2.1,(IntKind.wrap .i64 (x.2.2.1+1)),()) S)) (rec (x.1,x.2.1,(IntKind.wrap .i64 (x.2.2.1+1)),()) S)) (J0 (x.1,()) S)
def L0 (k:Nat):Pc PG R (.loop (su Tryz.f129 75)):=mkLoop T_ok (C k) _ m0 k (.seq .auto (.seq (.cond .auto (.mask e0 .auto)) (.seq (.block (.seq .auto (.seq .auto (.cond (.seq .auto (.mask mr .auto)) .auto)))) .auto))) ⟨tr,⟨tr,tr⟩,⟨tr,tr,⟨tr,tr⟩,tr⟩,tr⟩ (fun K=>b0 k (kX K 0 e0) (kR K mr))
def fn (k:Nat) (x:(BA×U1)) (S:LL) (K:Kt R (Bool×U1)):Option R :=
 ifB (decide ((x.1.size:Int)<1)) (K (false,()) S) (ifB (decide ((x.1.size:Int)>40)) (K (false,()) S) (idxStr x.1 (0:Int) fun c1=>Qck.fn k (c1,()) S fun r2 S=>ifB (!r2.1) (K (false,()) S) (rounds (b0 k (fun o8 S=>Qcl.fn k (()) S fun r9 S=>Qcw.fn k (r9.1,o8) S fun r10 S=>K ((!r10.1),()) S) K) k (x.1,(x.1.size:Int),0,()) S)))
def en (k:Nat):Ent PG R:=mkFn T_ok Tryz.func129 ps rs (C k) (.seq .auto (.seq (.seq .auto (.cond (.seq .auto (.mask mr .auto)) .auto)) (.seq (.seq .auto (.block (.piece (L0 k).h))) (.seq .auto (.mask mr .auto))))) ⟨tr,⟨tr,⟨tr,tr⟩,tr⟩,⟨tr,(L0 k).ok⟩,tr,tr⟩ (fn k)
end G.Qci
namespace G.Qao
abbrev ps:Mk:=sh (.lf (.int .i32)) []
abbrev rs:Mk:=sB []
abbrev mr:Mk:=n2 (sB (n6 []))
def C (k:Nat):List (Ent PG R):=[]
def fn (k:Nat) (x:(Int×U1)) (S:LL) (K:Kt R (Bool×U1)):Option R :=
 ifB (decide (x.1<32)) (K (true,()) S) (K ((decide (x.1>126)),()) S)
def en (k:Nat):Ent PG R:=mkFn T_ok Tryz.func130 ps rs (C k) (.seq .auto (.seq .auto (.mask mr .auto))) ⟨tr,tr,tr⟩ (fn k)
end G.Qao
def H.indexFunc_at_action_checkVars_1.fn (k:Nat) (x:ByteArray×Unit×Bool×Unit) (S:List LV) (K:Int×Unit→List LV→Option R):Option R:=H.indexFunc.fn (G.Qao.en k).h 130 x S K
def H.indexFunc_at_action_checkVars_1.h (k:Nat):Hd R:=hT (H.indexFunc.ps 130) fun x S K=>H.indexFunc_at_action_checkVars_1.fn k x S fun r S=>K (resE H.indexFunc.rs r) S
theorem H.indexFunc_at_action_checkVars_1.ok (k:Nat):HSound Tryz.prog 104 (H.indexFunc_at_action_checkVars_1.h (R:=R) k):=H.indexFunc.ok (G.Qao.en k).ok (enters_ok Tryz.func130 (by kernel_rfl) (by kernel_rfl))
namespace G.Qdr
abbrev ps:Mk:=sS (sh (.fn 130 []) [])
abbrev rs:Mk:=sI []
abbrev mr:Mk:=n4 (sI (n3 []))
def C (k:Nat):List (Ent PG R):=[⟨104,H.indexFunc_at_action_checkVars_1.h k,H.indexFunc_at_action_checkVars_1.ok k⟩]
def fn (k:Nat) (x:(BA×(U1)×U1)) (S:LL) (K:Kt R (Int×U1)):Option R :=
 H.indexFunc_at_action_checkVars_1.fn k (x.1,(()),true,()) S K
def en (k:Nat):Ent PG R:=mkFn T_ok Tryz.func79 ps rs (C k) (.seq .auto (.seq .auto (.mask mr .auto))) ⟨tr,tr,tr⟩ (fn k)
end G.Qdr
namespace G.Qdm
abbrev ps:Mk:=sS (sh (.fn 130 []) [])
abbrev rs:Mk:=sB []
abbrev mr:Mk:=n4 (sB (n4 []))
def C (k:Nat):List (Ent PG R):=[Qdr.en k]
def fn (k:Nat) (x:(BA×(U1)×U1)) (S:LL) (K:Kt R (Bool×U1)):Option R :=
 Qdr.fn k (x.1,(()),()) S fun r1 S=>K ((decide (r1.1≥0)),()) S
def en (k:Nat):Ent PG R:=mkFn T_ok Tryz.func50 ps rs (C k) (.seq .auto (.seq .auto (.mask mr .auto))) ⟨tr,tr,tr⟩ (fn k)
end G.Qdm
namespace G.Qan
abbrev ps:Mk:=sL 2 []
abbrev rs:Mk:=sI []
abbrev c0:Mk:=sL 2 (n2 (sI (sX [.str,.str] (n3 (sL 2 (sI (sI (n9 (sB (nM 24 []))))))))))
abbrev z0:Mk:=sL 2 (n7 (sL 2 (sI (sI (nM 34 [])))))
abbrev e0:Mk:=nM 45 []
abbrev mr:Mk:=n2 (sI (nM 42 []))
abbrev T0:=LL×LL×Int×Int×U1
def C (k:Nat):List (Ent PG R):=[Qdm.en k,Qci.en k]
def q0 (k:Nat) (Jnrm:Kt R T0) (Jret:Kt R (Int×U1)) (x:(LL×Int×(BA×BA×U1)×LL×Int×Int×Bool×U1)) (S:LL):Option R :=
 ifB x.2.2.2.2.2.2.1 (Jret ((3:Int),()) S) (ifB (decide (x.2.1>0)) (idxL x.1 (IntKind.wrap .i64 (x.2.1-1)) fun v6=>asStr (leaf v6 0) fun s7=>ifB (strLt x.2.2.1.1 s7||strEq x.2.2.1.1 s7) (Jret ((8:Int),()) S) (Jnrm (x.1,x.2.2.2.1,x.2.2.2.2.1,x.2.2.2.2.2.1,()) S)) (Jnrm (x.1,x.2.2.2.1,x.2.2.2.2.1,x.2.2.2.2.2.1,()) S))
def Q0 (k:Nat):Pc PG R (su Tryz.f87 62667):=mkEnd T_ok (C k) _ c0 z0 (.cond (.seq .auto (.mask mr .auto)) (.seq (.drawn [] [0,1,2,3,4,5,6,7,8,9,10,11,12,13]) (.cond (.seq .auto (.mask mr .auto)) .auto))) ⟨⟨tr,tr⟩,(drawn_an (by kernel_rfl)),⟨tr,tr⟩,tr⟩ (fun x S K=>q0 k (kN K z0) (kR K mr) x S)
def b0 (k:Nat) (J0:Kt R (U1)) (Jret:Kt R (Int×U1)) (rec:Kt R T0) (x:T0) (S:LL):Option R :=
 ifB (decide (x.2.2.2.1<x.2.2.1)) (idxL x.2.1 x.2.2.2.1 fun v1=>mat 2 v1 fun c2=>asStr (c2.getD 0 .any) fun s3=>asStr (c2.getD 1 .any) fun s4=>Qci.fn k (s3,()) S fun r5 S=>ifB (!r5.1) (Jret ((5:Int),()) S) (ifB (decide ((s4.size:Int)>300)) (q0 k (fun o8 S=>rec (o8.1,o8.2.1,o8.2.2.1,(IntKind.wrap .i64 (o8.2.2.2.1+1)),()) S) Jret (x.1,x.2.2.2.1,(s3,s4,()),x.2.1,x.2.2.1,x.2.2.2.1,true,()) S) (Qdm.fn k (s4,(()),()) S fun r10 S=>q0 k (fun o11 S=>rec (o11.1,o11.2.1,o11.2.2.1,(IntKind.wrap .i64 (o11.2.2.2.1+1)),()) S) Jret (x.1,x.2.2.2.1,(s3,s4,()),x.2.1,x.2.2.1,x.2.2.2.1,r10) S))) (J0 (()) S)
def L0 (k:Nat):Pc PG R (.loop (su Tryz.f87 75)):=mkLoop T_ok (C k) _ z0 k (.seq .auto (.seq (.cond .auto (.mask e0 .auto)) (.seq (.block (.seq .auto (.block (.seq .auto (.cond (.seq .auto (.mask mr .auto)) (.seq .auto (.piece (Q0 k).h))))))) .auto))) ⟨tr,⟨tr,tr⟩,⟨tr,tr,⟨tr,tr⟩,tr,(Q0 k).ok⟩,tr⟩ (fun K=>b0 k (kX K 0 e0) (kR K mr))
def fn (k:Nat) (x:(LL×U1)) (S:LL) (K:Kt R (Int×U1)):Option R :=
 ifB (decide ((x.1.length:Int)>30)) (K (2,()) S) (rounds (b0 k (fun o13 S=>K (0,()) S) K) k (x.1,x.1,(x.1.length:Int),0,()) S)
def en (k:Nat):Ent PG R:=mkFn T_ok Tryz.func87 ps rs (C k) (.seq .auto (.seq (.seq .auto (.cond (.seq .auto (.mask mr .auto)) .auto)) (.seq (.seq .auto (.block (.piece (L0 k).h))) (.seq .auto (.mask mr .auto))))) ⟨tr,⟨tr,⟨tr,tr⟩,tr⟩,⟨tr,(L0 k).ok⟩,tr,tr⟩ (fn k)
end G.Qan
namespace G.Qcc
abbrev ps:Mk:=sS (sS [])
abbrev rs:Mk:=sB []
abbrev mr:Mk:=n4 (sB (nM 13 []))
def C (k:Nat):List (Ent PG R):=[]
def fn (k:Nat) (x:(BA×BA×U1)) (S:LL) (K:Kt R (Bool×U1)):Option R :=
 ifB (decide ((x.1.size:Int)≥(x.2.1.size:Int))) (slStr x.1 (0:Int) (x.2.1.size:Int) fun s1=>K ((strEq s1 x.2.1),()) S) (K (false,()) S)
def en (k:Nat):Ent PG R:=mkFn T_ok Tryz.func172 ps rs (C k) (.seq .auto (.seq .auto (.mask mr .auto))) ⟨tr,tr,tr⟩ (fn k)
end G.Qcc
namespace G.Qdp
abbrev ps:Mk:=sS (sS [])
abbrev rs:Mk:=sB []
abbrev mr:Mk:=n4 (sB (n3 []))
def C (k:Nat):List (Ent PG R):=[Qcc.en k]
def fn (k:Nat) (x:(BA×BA×U1)) (S:LL) (K:Kt R (Bool×U1)):Option R :=
 Qcc.fn k x S K
def en (k:Nat):Ent PG R:=mkFn T_ok Tryz.func114 ps rs (C k) (.seq .auto (.seq .auto (.mask mr .auto))) ⟨tr,tr,tr⟩ (fn k)
end G.Qdp
namespace G.Qbt
abbrev ps:Mk:=sS (sS [])
abbrev rs:Mk:=sB []
abbrev mr:Mk:=n4 (sB (n4 []))
def C (k:Nat):List (Ent PG R):=[Qdp.en k]
def fn (k:Nat) (x:(BA×BA×U1)) (S:LL) (K:Kt R (Bool×U1)):Option R :=
 catStr x.2.1 (bs [47]) fun s1=>Qdp.fn k (x.1,s1,()) S K
def en (k:Nat):Ent PG R:=mkFn T_ok Tryz.func90 ps rs (C k) (.seq .auto (.seq .auto (.mask mr .auto))) ⟨tr,tr,tr⟩ (fn k)
end G.Qbt
namespace G.Qam
abbrev ps:Mk:=sS (sP [])
abbrev rs:Mk:=sB []
abbrev mr:Mk:=n3 (sB (n3 []))
def C (k:Nat):List (Ent PG R):=[Qbt.en k]
def fn (k:Nat) (x:(BA×N2×U1)) (S:LL) (K:Kt R (Bool×U1)):Option R :=
 objAt S x.2.1.1 fun ty c1=>ldStr c1 x.2.1.2 fun s2=>Qbt.fn k (s2,x.1,()) S K
def en (k:Nat):Ent PG R:=mkFn T_ok Tryz.func131 ps rs (C k) (.seq .auto (.seq (.own [(0,1)]) (.mask mr .auto))) ⟨tr,tr,tr⟩ (fn k)
end G.Qam
namespace G.Qda
abbrev ps:Mk:=sL 1 (sh (.fn 131 [.ptr]) [])
abbrev rs:Mk:=sI []
abbrev e0:Mk:=nM 19 []
abbrev m0:Mk:=sL 1 (sh (.fn 131 [.ptr]) (n5 (sI (sI (nX [])))))
abbrev mr:Mk:=n4 (sI (nM 14 []))
abbrev T0:=LL×(N2×U1)×Int×Int×U1
def C (k:Nat):List (Ent PG R):=[Qam.en k]
def b0 (k:Nat) (J0:Kt R (U1)) (Jret:Kt R (Int×U1)) (rec:Kt R T0) (x:T0) (S:LL):Option R :=
 ifB (decide (x.2.2.2.1<x.2.2.1)) (idxL x.1 x.2.2.2.1 fun v1=>asStr (leaf v1 0) fun s2=>Qam.fn k (s2,x.2.1) S fun r3 S=>ifB r3.1 (Jret x.2.2.2 S) (rec (x.1,x.2.1,x.2.2.1,(IntKind.wrap .i64 (x.2.2.2.1+1)),()) S)) (J0 (()) S)
def L0 (k:Nat):Pc PG R (.loop (su Tryz.f89 37)):=mkLoop T_ok (C k) _ m0 k (.seq .auto (.seq (.cond .auto (.mask e0 .auto)) (.seq (.block (.seq .auto (.seq .auto (.cond (.seq .auto (.mask mr .auto)) .auto)))) .auto))) ⟨tr,⟨tr,tr⟩,⟨tr,tr,⟨tr,tr⟩,tr⟩,tr⟩ (fun K=>b0 k (kX K 0 e0) (kR K mr))
def fn (k:Nat) (x:(LL×(N2×U1)×U1)) (S:LL) (K:Kt R (Int×U1)):Option R :=
 rounds (b0 k (fun o4 S=>K (-1,()) S) K) k (x.1,x.2.1,(x.1.length:Int),0,()) S
def en (k:Nat):Ent PG R:=mkFn T_ok Tryz.func89 ps rs (C k) (.seq .auto (.seq (.seq .auto (.block (.piece (L0 k).h))) (.seq .auto (.mask mr .auto)))) ⟨tr,⟨tr,(L0 k).ok⟩,tr,tr⟩ (fn k)
end G.Qda
namespace G.Qcv
abbrev ps:Mk:=sL 1 (sh (.fn 131 [.ptr]) [])
abbrev rs:Mk:=sB []
abbrev mr:Mk:=n4 (sB (n4 []))
def C (k:Nat):List (Ent PG R):=[Qda.en k]
def fn (k:Nat) (x:(LL×(N2×U1)×U1)) (S:LL) (K:Kt R (Bool×U1)):Option R :=
 Qda.fn k x S fun r1 S=>K ((decide (r1.1≥0)),()) S
def en (k:Nat):Ent PG R:=mkFn T_ok Tryz.func64 ps rs (C k) (.seq .auto (.seq .auto (.mask mr .auto))) ⟨tr,tr,tr⟩ (fn k)
end G.Qcv
namespace G.Qal
abbrev ps:Mk:=sL 1 []
abbrev rs:Mk:=sI []
abbrev e0:Mk:=sL 1 (nM 44 [])
abbrev e2:Mk:=nM 45 []
abbrev m0:Mk:=sL 1 (nM 12 (sL 1 (sI (sI (nM 29 [])))))
abbrev m1:Mk:=sL 1 (nM 34 (sL 1 (sI (sI (n7 [])))))
abbrev mr:Mk:=n2 (sI (nM 42 []))
abbrev T1:=Int×U1
abbrev T0:=LL×LL×Int×Int×U1
def C (k:Nat):List (Ent PG R):=[Qcv.en k,Qbq.en k]
def b1 (k:Nat) (J2:Kt R (U1)) (Jret:Kt R T1) (rec:Kt R T0) (x:T0) (S:LL):Option R :=
 ifB (decide (x.2.2.2.1<x.2.2.1)) (idxL x.2.1 x.2.2.2.1 fun v7=>asStr (leaf v7 0) fun s8=>newObj S (.obj 9 [(.str (bs []))]) fun i9 S=>objAt S i9 fun ty c10=>stO c10 0 [(.str s8)] fun c11=>setS (S.set i9 (ty c11)) fun S=>Qcv.fn k (x.1,((i9,0),()),()) S fun r12 S=>ifB r12.1 (Jret ((12:Int),()) S) (rec (x.1,x.2.1,x.2.2.1,(IntKind.wrap .i64 (x.2.2.2.1+1)),()) S)) (J2 (()) S)
def L1 (k:Nat):Pc PG R (.loop (su Tryz.f88 303)):=mkLoop T_ok (C k) _ m1 k (.seq .auto (.seq (.cond .auto (.mask e2 .auto)) (.seq (.block (.seq (.own [(2,1),(3,1)]) (.seq .auto (.cond (.seq .auto (.mask mr .auto)) .auto)))) .auto))) ⟨tr,⟨tr,tr⟩,⟨tr,tr,⟨tr,tr⟩,tr⟩,tr⟩ (fun K=>b1 k (kX K 2 e2) (kR K mr))
def b0 (k:Nat) (J0:Kt R (LL×U1)) (Jret:Kt R T1) (rec:Kt R T0) (x:T0) (S:LL):Option R :=
 ifB (decide (x.2.2.2.1<x.2.2.1)) (idxL x.2.1 x.2.2.2.1 fun v1=>asStr (leaf v1 0) fun s2=>Qbq.fn k (s2,()) S fun r3 S=>ifB (!r3.1) (Jret ((3:Int),()) S) (ifB (decide (x.2.2.2.1>0)) (idxL x.1 (IntKind.wrap .i64 (x.2.2.2.1-1)) fun v4=>asStr (leaf v4 0) fun s5=>ifB (strLt s2 s5||strEq s2 s5) (Jret ((8:Int),()) S) (rec (x.1,x.2.1,x.2.2.1,(IntKind.wrap .i64 (x.2.2.2.1+1)),()) S)) (rec (x.1,x.2.1,x.2.2.1,(IntKind.wrap .i64 (x.2.2.2.1+1)),()) S))) (J0 (x.1,()) S)
def L0 (k:Nat):Pc PG R (.loop (su Tryz.f88 151)):=mkLoop T_ok (C k) _ m0 k (.seq .auto (.seq (.cond .auto (.mask e0 .auto)) (.seq (.block (.seq .auto (.seq (.seq .auto (.cond (.seq .auto (.mask mr .auto)) .auto)) (.seq .auto (.cond (.seq .auto (.mask mr .auto)) .auto))))) .auto))) ⟨tr,⟨tr,tr⟩,⟨tr,⟨tr,⟨tr,tr⟩,tr⟩,tr,⟨tr,tr⟩,tr⟩,tr⟩ (fun K=>b0 k (kX K 0 e0) (kR K mr))
def fn0 (k:Nat) (x:(LL×U1)) (S:LL) (K:Kt R T1):Option R :=
 ifB ((x.1.length:Int)==0) (K (9,()) S) (ifB (decide ((x.1.length:Int)>100)) (K (2,()) S) (rounds (b0 k (fun o6 S=>rounds (b1 k (fun o13 S=>K (0,()) S) K) k (o6.1,o6.1,(o6.1.length:Int),0,()) S) K) k (x.1,x.1,(x.1.length:Int),0,()) S))
def en0 (k:Nat):Ent PG R:=mkFn T_ok Tryz.func88 ps rs (C k) (.seq .auto (.seq (.seq .auto (.cond (.seq .auto (.mask mr .auto)) .auto)) (.seq (.seq .auto (.cond (.seq .auto (.mask mr .auto)) .auto)) (.seq (.seq .auto (.block (.piece (L0 k).h))) (.seq (.seq .auto (.block (.piece (L1 k).h))) (.seq .auto (.mask mr .auto))))))) ⟨tr,⟨tr,⟨tr,tr⟩,tr⟩,⟨tr,⟨tr,tr⟩,tr⟩,⟨tr,(L0 k).ok⟩,⟨tr,(L1 k).ok⟩,tr,tr⟩ (fn0 k)
def fn (k:Nat) (x:(LL×U1)) (S:LL) (K:Kt R T1):Option R:=popK rs 6 S (fn0 k x S fun r S=>some (resE rs r,S)) K
def en (k:Nat):Ent PG R:=mkPop (rs:=rs) (en0 k).ok
end G.Qal
namespace G.Qaa
abbrev ps:Mk:=sA [.str,.sl 1,.sl 2,.sl 1,.sl 2,jI] []
abbrev rs:Mk:=sI []
abbrev e0:Mk:=n1 (sX [.str,.sl 1,.sl 2,.sl 1,.sl 2,jI] (nM 58 []))
abbrev m0:Mk:=n1 (sX [.str,.sl 1,.sl 2,.sl 1,.sl 2,jI] (nM 20 (sL 1 (sI (sI (nM 35 []))))))
abbrev mr:Mk:=n2 (sI (nM 57 []))
abbrev T1:=(BA×LL×LL×LL×LL×Int×U1)×U1
abbrev T0:=(BA×LL×LL×LL×LL×Int×U1)×LL×Int×Int×U1
def C (k:Nat):List (Ent PG R):=[Qbp.en k,Qaj.en k,Qan.en k,Qal.en k]
def b0 (k:Nat) (J0:Kt R T1) (Jret:Kt R (Int×U1)) (rec:Kt R T0) (x:T0) (S:LL):Option R :=
 ifB (decide (x.2.2.2.1<x.2.2.1)) (idxL x.2.1 x.2.2.2.1 fun v2=>asSl 1 (leaf v2 0) fun l3=>Qaj.fn k (l3,()) S fun r4 S=>ifB (r4.1 != 0) (Jret r4 S) (rec (x.1,x.2.1,x.2.2.1,(IntKind.wrap .i64 (x.2.2.2.1+1)),()) S)) (J0 (x.1,()) S)
def L0 (k:Nat):Pc PG R (.loop (su Tryz.f63 303)):=mkLoop T_ok (C k) _ m0 k (.seq .auto (.seq (.cond .auto (.mask e0 .auto)) (.seq (.block (.seq .auto (.seq .auto (.seq .auto (.cond (.seq .auto (.mask mr .auto)) .auto))))) .auto))) ⟨tr,⟨tr,tr⟩,⟨tr,tr,tr,⟨tr,tr⟩,tr⟩,tr⟩ (fun K=>b0 k (kX K 0 e0) (kR K mr))
def fn (k:Nat) (x:T1) (S:LL) (K:Kt R (Int×U1)):Option R :=
 Qbp.fn k (x.1.1,()) S fun r1 S=>ifB (!r1.1) (K (3,()) S) (ifB ((x.1.2.1.length:Int)==0) (K (9,()) S) (ifB (decide ((x.1.2.1.length:Int)>50)) (K (2,()) S) (rounds (b0 k (fun o5 S=>Qan.fn k (o5.1.2.2.1,()) S fun r6 S=>ifB (r6.1 != 0) (K r6 S) (Qal.fn k (o5.1.2.2.2.1,()) S fun r7 S=>ifB (r7.1 != 0) (K r7 S) (Qan.fn k (o5.1.2.2.2.2.1,()) S fun r8 S=>ifB (r8.1 != 0) (K r8 S) (ifB (decide (o5.1.2.2.2.2.2.1<1)) (K (1,()) S) (ifB (decide (o5.1.2.2.2.2.2.1>100000)) (K (1,()) S) (K (0,()) S)))))) K) k (x.1,x.1.2.1,(x.1.2.1.length:Int),0,()) S)))
def en (k:Nat):Ent PG R:=mkFn T_ok Tryz.func63 ps rs (C k) (.seq .auto (.seq (.seq .auto (.cond (.seq .auto (.mask mr .auto)) .auto)) (.seq (.seq .auto (.cond (.seq .auto (.mask mr .auto)) .auto)) (.seq (.seq .auto (.cond (.seq .auto (.mask mr .auto)) .auto)) (.seq (.seq .auto (.block (.piece (L0 k).h))) (.seq (.seq .auto (.seq .auto (.cond (.seq .auto (.mask mr .auto)) .auto))) (.seq (.seq .auto (.seq .auto (.cond (.seq .auto (.mask mr .auto)) .auto))) (.seq (.seq .auto (.seq .auto (.cond (.seq .auto (.mask mr .auto)) .auto))) (.seq (.seq .auto (.cond (.seq .auto (.mask mr .auto)) .auto)) (.seq .auto (.mask mr .auto))))))))))) ⟨tr,⟨tr,⟨tr,tr⟩,tr⟩,⟨tr,⟨tr,tr⟩,tr⟩,⟨tr,⟨tr,tr⟩,tr⟩,⟨tr,(L0 k).ok⟩,⟨tr,tr,⟨tr,tr⟩,tr⟩,⟨tr,tr,⟨tr,tr⟩,tr⟩,⟨tr,tr,⟨tr,tr⟩,tr⟩,⟨tr,⟨tr,tr⟩,tr⟩,tr,tr⟩ (fn k)
end G.Qaa
namespace G.Qbu
abbrev ps:Mk:=sh (.lf (.map)) (sS [])
abbrev rs:Mk:=sB []
abbrev e0:Mk:=nM 23 []
abbrev m0:Mk:=sh (.lf (.map)) (sS (n5 (sI (sI (nM 14 [])))))
abbrev mr:Mk:=n4 (sB (nM 18 []))
abbrev T0:=Nat×BA×Int×Int×U1
def C (k:Nat):List (Ent PG R):=[]
def b0 (k:Nat) (J0:Kt R (U1)) (Jret:Kt R (Bool×U1)) (rec:Kt R T0) (x:T0) (S:LL):Option R :=
 ifB (decide (x.2.2.2.1<x.2.2.1)) (idxStr x.2.1 x.2.2.2.1 fun c1=>ifB (c1==47) (slStr x.2.1 (0:Int) x.2.2.2.1 fun s2=>mpAt S x.1 .str fun m3=>asBool ((mapGet m3 (.str s2)).getD (.bool false)) fun b4=>ifB b4 (Jret (true,()) S) (rec (x.1,x.2.1,x.2.2.1,(IntKind.wrap .i64 (x.2.2.2.1+1)),()) S)) (rec (x.1,x.2.1,x.2.2.1,(IntKind.wrap .i64 (x.2.2.2.1+1)),()) S)) (J0 (()) S)
def L0 (k:Nat):Pc PG R (.loop (su Tryz.f74 37)):=mkLoop T_ok (C k) _ m0 k (.seq .auto (.seq (.cond .auto (.mask e0 .auto)) (.seq (.block (.seq .auto (.seq .auto (.cond (.seq .auto (.mask mr .auto)) .auto)))) .auto))) ⟨tr,⟨tr,tr⟩,⟨tr,tr,⟨tr,tr⟩,tr⟩,tr⟩ (fun K=>b0 k (kX K 0 e0) (kR K mr))
def fn (k:Nat) (x:(Nat×BA×U1)) (S:LL) (K:Kt R (Bool×U1)):Option R :=
 rounds (b0 k (fun o5 S=>K (false,()) S) K) k (x.1,x.2.1,(x.2.1.size:Int),0,()) S
def en (k:Nat):Ent PG R:=mkFn T_ok Tryz.func74 ps rs (C k) (.seq .auto (.seq (.seq .auto (.block (.piece (L0 k).h))) (.seq .auto (.mask mr .auto)))) ⟨tr,⟨tr,(L0 k).ok⟩,tr,tr⟩ (fn k)
end G.Qbu
namespace G.Qbn
abbrev ps:Mk:=sL 3 []
abbrev rs:Mk:=sI []
abbrev c0:Mk:=sL 3 (n2 (sI (sh (.lf (.map)) (n1 (sX [.str,.bool,.sl 1] (n6 (sL 3 (sI (sI (nM 50 []))))))))))
abbrev z0:Mk:=sL 3 (n2 (sI (sh (.lf (.map)) (n8 (sL 3 (sI (sI (nM 50 []))))))))
abbrev e0:Mk:=sL 3 (n2 (sI (sh (.lf (.map)) (nM 61 []))))
abbrev e3:Mk:=n3 (sI (nM 62 []))
abbrev m1:Mk:=n3 (sI (sh (.lf (.map)) (nM 48 (sL 3 (sI (sI (nX [])))))))
abbrev mr:Mk:=n2 (sI (nM 63 []))
abbrev T3:=Int×U1
abbrev T2:=Int×Nat×LL×Int×Int×U1
abbrev T1:=LL×Int×Nat×LL×Int×Int×U1
abbrev T0:=LL×Int×Nat×(BA×Bool×LL×U1)×LL×Int×Int×U1
def C (k:Nat):List (Ent PG R):=[Qbq.en k,Qbu.en k]
def q1 (k:Nat) (Jnrm:Kt R T1)  (x:T0) (S:LL):Option R :=
 mpAt S x.2.2.1 .str fun m10=>setS (S.set x.2.2.1 (.mp .str (mapPut m10 (.str x.2.2.2.1.1) (.bool true)))) fun S=>Jnrm (x.1,x.2.1,x.2.2.1,x.2.2.2.2) S
def Q1 (k:Nat):Pc PG R (su Tryz.f48 62255):=mkEnd T_ok (C k) _ c0 z0 (.auto) tr (fun x S K=>q1 k (kN K z0) x S)
def q0 (k:Nat) (Jnrm:Kt R T1)  (x:T0) (S:LL):Option R :=
 q1 k Jnrm (x.1,(IntKind.wrap .i64 (x.2.1+(x.2.2.2.1.2.2.1.length:Int))),x.2.2) S
def Q0 (k:Nat):Pc PG R (su Tryz.f48 29487):=mkEnd T_ok (C k) _ c0 z0 (.seq .auto (.piece (Q1 k).h)) ⟨tr,(Q1 k).ok⟩ (fun x S K=>q0 k (kN K z0) x S)
def b1 (k:Nat) (J3:Kt R T3) (Jret:Kt R T3) (rec:Kt R T2) (x:T2) (S:LL):Option R :=
 ifB (decide (x.2.2.2.2.1<x.2.2.2.1)) (idxL x.2.2.1 x.2.2.2.2.1 fun v15=>mat 3 v15 fun c16=>asStr (c16.getD 0 .any) fun s17=>asBool (c16.getD 1 .any) fun b18=>asSl 1 (c16.getD 2 .any) fun l19=>Qbu.fn k (x.2.1,s17,()) S fun r20 S=>ifB r20.1 (Jret ((12:Int),()) S) (rec (x.1,x.2.1,x.2.2.1,x.2.2.2.1,(IntKind.wrap .i64 (x.2.2.2.2.1+1)),()) S)) (J3 (x.1,()) S)
def L1 (k:Nat):Pc PG R (.loop (su Tryz.f48 607)):=mkLoop T_ok (C k) _ m1 k (.seq .auto (.seq (.cond .auto (.mask e3 .auto)) (.seq (.block (.seq .auto (.seq .auto (.cond (.seq .auto (.mask mr .auto)) .auto)))) .auto))) ⟨tr,⟨tr,tr⟩,⟨tr,tr,⟨tr,tr⟩,tr⟩,tr⟩ (fun K=>b1 k (kX K 3 e3) (kR K mr))
def b0 (k:Nat) (J0:Kt R (LL×Int×Nat×U1)) (Jret:Kt R T3) (rec:Kt R T1) (x:T1) (S:LL):Option R :=
 ifB (decide (x.2.2.2.2.2.1<x.2.2.2.2.1)) (idxL x.2.2.2.1 x.2.2.2.2.2.1 fun v2=>mat 3 v2 fun c3=>asStr (c3.getD 0 .any) fun s4=>asBool (c3.getD 1 .any) fun b5=>asSl 1 (c3.getD 2 .any) fun l6=>Qbq.fn k (s4,()) S fun r7 S=>ifB (!r7.1) (Jret ((3:Int),()) S) (ifB (decide ((l6.length:Int)>100000)) (Jret ((2:Int),()) S) (ifB (decide (x.2.2.2.2.2.1>0)) (idxL x.1 (IntKind.wrap .i64 (x.2.2.2.2.2.1-1)) fun v8=>asStr (leaf v8 0) fun s9=>ifB (strLt s4 s9||strEq s4 s9) (Jret ((8:Int),()) S) (q0 k (fun o12 S=>rec (o12.1,o12.2.1,o12.2.2.1,o12.2.2.2.1,o12.2.2.2.2.1,(IntKind.wrap .i64 (o12.2.2.2.2.2.1+1)),()) S) (x.1,x.2.1,x.2.2.1,(s4,b5,l6,()),x.2.2.2) S)) (q0 k (fun o13 S=>rec (o13.1,o13.2.1,o13.2.2.1,o13.2.2.2.1,o13.2.2.2.2.1,(IntKind.wrap .i64 (o13.2.2.2.2.2.1+1)),()) S) (x.1,x.2.1,x.2.2.1,(s4,b5,l6,()),x.2.2.2) S)))) (J0 (x.1,x.2.1,x.2.2.1,()) S)
def L0 (k:Nat):Pc PG R (.loop (su Tryz.f48 303)):=mkLoop T_ok (C k) _ z0 k (.seq .auto (.seq (.cond .auto (.mask e0 .auto)) (.seq (.block (.seq .auto (.seq (.block (.seq .auto (.cond (.seq .auto (.mask mr .auto)) (.seq .auto (.cond (.seq .auto (.mask mr .auto)) (.seq (.drawn [] [0,1,2,3,4,5,6,7,8,9,10,11,12,13]) (.cond (.seq .auto (.mask mr .auto)) .auto))))))) (.piece (Q0 k).h)))) .auto))) ⟨tr,⟨tr,tr⟩,⟨tr,⟨tr,⟨tr,tr⟩,tr,⟨tr,tr⟩,(drawn_an (by kernel_rfl)),⟨tr,tr⟩,tr⟩,(Q0 k).ok⟩,tr⟩ (fun K=>b0 k (kX K 0 e0) (kR K mr))
def fn0 (k:Nat) (x:(LL×U1)) (S:LL) (K:Kt R T3):Option R :=
 ifB (decide ((x.1.length:Int)>1000)) (K (2,()) S) (newObj S (.mp .str []) fun i1 S=>rounds (b0 k (fun o14 S=>rounds (b1 k (fun o21 S=>ifB (decide (o21.1>2000000)) (K (2,()) S) (K (0,()) S)) K) k (o14.2.1,o14.2.2.1,o14.1,(o14.1.length:Int),0,()) S) K) k (x.1,0,i1,x.1,(x.1.length:Int),0,()) S)
def en0 (k:Nat):Ent PG R:=mkFn T_ok Tryz.func48 ps rs (C k) (.seq .auto (.seq (.seq .auto (.cond (.seq .auto (.mask mr .auto)) .auto)) (.seq .auto (.seq .auto (.seq (.seq .auto (.block (.piece (L0 k).h))) (.seq (.seq .auto (.block (.piece (L1 k).h))) (.seq (.seq .auto (.cond (.seq .auto (.mask mr .auto)) .auto)) (.seq .auto (.mask mr .auto))))))))) ⟨tr,⟨tr,⟨tr,tr⟩,tr⟩,tr,tr,⟨tr,(L0 k).ok⟩,⟨tr,(L1 k).ok⟩,⟨tr,⟨tr,tr⟩,tr⟩,tr,tr⟩ (fn0 k)
def fn (k:Nat) (x:(LL×U1)) (S:LL) (K:Kt R T3):Option R:=popK rs 6 S (fn0 k x S fun r S=>some (resE rs r,S)) K
def en (k:Nat):Ent PG R:=mkPop (rs:=rs) (en0 k).ok
end G.Qbn
namespace G.Qaf
abbrev ps:Mk:=sS (sS [])
abbrev rs:Mk:=sB []
abbrev mr:Mk:=n4 (sB (nM 13 []))
def C (k:Nat):List (Ent PG R):=[Qbt.en k]
def fn (k:Nat) (x:(BA×BA×U1)) (S:LL) (K:Kt R (Bool×U1)):Option R :=
 ifB (strEq x.1 x.2.1) (K (true,()) S) (Qbt.fn k x S fun r1 S=>ifB r1.1 (K (true,()) S) (Qbt.fn k (x.2.1,x.1,()) S K))
def en (k:Nat):Ent PG R:=mkFn T_ok Tryz.func66 ps rs (C k) (.seq .auto (.seq .auto (.mask mr .auto))) ⟨tr,tr,tr⟩ (fn k)
end G.Qaf
namespace G.Qai
abbrev ps:Mk:=sS (sP [])
abbrev rs:Mk:=sB []
abbrev mr:Mk:=n3 (sB (n4 []))
def C (k:Nat):List (Ent PG R):=[Qaf.en k]
def fn (k:Nat) (x:(BA×N2×U1)) (S:LL) (K:Kt R (Bool×U1)):Option R :=
 objAt S x.2.1.1 fun ty c1=>ldStr c1 (x.2.1.2+0) fun s2=>Qaf.fn k (x.1,s2,()) S K
def en (k:Nat):Ent PG R:=mkFn T_ok Tryz.func65 ps rs (C k) (.seq .auto (.seq (.own [(2,1)]) (.mask mr .auto))) ⟨tr,tr,tr⟩ (fn k)
end G.Qai
namespace G.Qcy
abbrev ps:Mk:=sL 1 (sh (.fn 65 [.ptr]) [])
abbrev rs:Mk:=sI []
abbrev e0:Mk:=nM 19 []
abbrev m0:Mk:=sL 1 (sh (.fn 65 [.ptr]) (n5 (sI (sI (nX [])))))
abbrev mr:Mk:=n4 (sI (nM 14 []))
abbrev T0:=LL×(N2×U1)×Int×Int×U1
def C (k:Nat):List (Ent PG R):=[Qai.en k]
def b0 (k:Nat) (J0:Kt R (U1)) (Jret:Kt R (Int×U1)) (rec:Kt R T0) (x:T0) (S:LL):Option R :=
 ifB (decide (x.2.2.2.1<x.2.2.1)) (idxL x.1 x.2.2.2.1 fun v1=>asStr (leaf v1 0) fun s2=>Qai.fn k (s2,x.2.1) S fun r3 S=>ifB r3.1 (Jret x.2.2.2 S) (rec (x.1,x.2.1,x.2.2.1,(IntKind.wrap .i64 (x.2.2.2.1+1)),()) S)) (J0 (()) S)
def L0 (k:Nat):Pc PG R (.loop (su Tryz.f89 37)):=mkLoop T_ok (C k) _ m0 k (.seq .auto (.seq (.cond .auto (.mask e0 .auto)) (.seq (.block (.seq .auto (.seq .auto (.cond (.seq .auto (.mask mr .auto)) .auto)))) .auto))) ⟨tr,⟨tr,tr⟩,⟨tr,tr,⟨tr,tr⟩,tr⟩,tr⟩ (fun K=>b0 k (kX K 0 e0) (kR K mr))
def fn (k:Nat) (x:(LL×(N2×U1)×U1)) (S:LL) (K:Kt R (Int×U1)):Option R :=
 rounds (b0 k (fun o4 S=>K (-1,()) S) K) k (x.1,x.2.1,(x.1.length:Int),0,()) S
def en (k:Nat):Ent PG R:=mkFn T_ok Tryz.func89 ps rs (C k) (.seq .auto (.seq (.seq .auto (.block (.piece (L0 k).h))) (.seq .auto (.mask mr .auto)))) ⟨tr,⟨tr,(L0 k).ok⟩,tr,tr⟩ (fn k)
end G.Qcy
namespace G.Qct
abbrev ps:Mk:=sL 1 (sh (.fn 65 [.ptr]) [])
abbrev rs:Mk:=sB []
abbrev mr:Mk:=n4 (sB (n4 []))
def C (k:Nat):List (Ent PG R):=[Qcy.en k]
def fn (k:Nat) (x:(LL×(N2×U1)×U1)) (S:LL) (K:Kt R (Bool×U1)):Option R :=
 Qcy.fn k x S fun r1 S=>K ((decide (r1.1≥0)),()) S
def en (k:Nat):Ent PG R:=mkFn T_ok Tryz.func64 ps rs (C k) (.seq .auto (.seq .auto (.mask mr .auto))) ⟨tr,tr,tr⟩ (fn k)
end G.Qct
namespace G.Qah
abbrev ps:Mk:=sA [.str,.sl 1,.sl 2,.sl 1,.sl 2,jI] (sL 3 [])
abbrev rs:Mk:=sI []
abbrev e0:Mk:=nM 30 []
abbrev m0:Mk:=n2 (sX [.str,.sl 1,.sl 2,.sl 1,.sl 2,jI] (nM 16 (sL 3 (sI (sI (n8 []))))))
abbrev mr:Mk:=n4 (sI (nM 25 []))
abbrev T1:=(BA×LL×LL×LL×LL×Int×U1)×LL×U1
abbrev T0:=(BA×LL×LL×LL×LL×Int×U1)×LL×Int×Int×U1
def C (k:Nat):List (Ent PG R):=[Qbn.en k,Qaa.en k,Qct.en k]
def b0 (k:Nat) (J0:Kt R (U1)) (Jret:Kt R (Int×U1)) (rec:Kt R T0) (x:T0) (S:LL):Option R :=
 ifB (decide (x.2.2.2.1<x.2.2.1)) (idxL x.2.1 x.2.2.2.1 fun v3=>mat 3 v3 fun c4=>asStr (c4.getD 0 .any) fun s5=>asBool (c4.getD 1 .any) fun b6=>asSl 1 (c4.getD 2 .any) fun l7=>newObj S (.obj 50 [(.str (bs [])),(.bool false),.nilsl]) fun i8 S=>objAt S i8 fun ty c9=>stO c9 0 [(.str s5),(.bool b6),(.sl 1 l7)] fun c10=>setS (S.set i8 (ty c10)) fun S=>Qct.fn k (x.1.2.2.2.1,((i8,0),()),()) S fun r11 S=>ifB r11.1 (Jret ((12:Int),()) S) (rec (x.1,x.2.1,x.2.2.1,(IntKind.wrap .i64 (x.2.2.2.1+1)),()) S)) (J0 (()) S)
def L0 (k:Nat):Pc PG R (.loop (su Tryz.f38 151)):=mkLoop T_ok (C k) _ m0 k (.seq .auto (.seq (.cond .auto (.mask e0 .auto)) (.seq (.block (.seq (.own [(2,1),(3,1)]) (.seq .auto (.cond (.seq .auto (.mask mr .auto)) .auto)))) .auto))) ⟨tr,⟨tr,tr⟩,⟨tr,tr,⟨tr,tr⟩,tr⟩,tr⟩ (fun K=>b0 k (kX K 0 e0) (kR K mr))
def fn0 (k:Nat) (x:T1) (S:LL) (K:Kt R (Int×U1)):Option R :=
 Qaa.fn k (x.1,()) S fun r1 S=>ifB (r1.1 != 0) (K r1 S) (Qbn.fn k x.2 S fun r2 S=>ifB (r2.1 != 0) (K r2 S) (rounds (b0 k (fun o12 S=>K (0,()) S) K) k (x.1,x.2.1,(x.2.1.length:Int),0,()) S))
def en0 (k:Nat):Ent PG R:=mkFn T_ok Tryz.func38 ps rs (C k) (.seq .auto (.seq (.seq .auto (.seq .auto (.cond (.seq .auto (.mask mr .auto)) .auto))) (.seq (.seq .auto (.seq .auto (.cond (.seq .auto (.mask mr .auto)) .auto))) (.seq (.seq .auto (.block (.piece (L0 k).h))) (.seq .auto (.mask mr .auto)))))) ⟨tr,⟨tr,tr,⟨tr,tr⟩,tr⟩,⟨tr,tr,⟨tr,tr⟩,tr⟩,⟨tr,(L0 k).ok⟩,tr,tr⟩ (fn0 k)
def fn (k:Nat) (x:T1) (S:LL) (K:Kt R (Int×U1)):Option R:=popK rs 6 S (fn0 k x S fun r S=>some (resE rs r,S)) K
def en (k:Nat):Ent PG R:=mkPop (rs:=rs) (en0 k).ok
end G.Qah
namespace G.Qdk
abbrev ps:Mk:=sP (sS [])
abbrev rs:Mk:=sI (sh (.lf (.nili)) [])
abbrev mr:Mk:=n4 (sI (sh (.lf (.nili)) (nM 13 [])))
def C (k:Nat):List (Ent PG R):=[⟨222,H.copyCheck.h k,H.copyCheck.ok k⟩]
def fn (k:Nat) (x:(N2×BA×U1)) (S:LL) (K:Kt R (Int×U1×U1)):Option R :=
 H.copyCheck.fn k (x.1,()) S fun r1 S=>objAt S x.1.1 fun ty c2=>asOwn 5 1 (c2.getD (x.1.2+1) .any) fun l3=>setS (S.set x.1.1 (ty (c2.set (x.1.2+1) (.sl 1 l3)))) fun S=>app 1 l3 (bytesL x.2.1) fun l4=>objAt S x.1.1 fun ty c5=>stO c5 (x.1.2+1) [(.own 5 1 l4)] fun c6=>setS (S.set x.1.1 (ty c6)) fun S=>K ((x.2.1.size:Int),(),()) S
def en (k:Nat):Ent PG R:=mkFn T_ok Tryz.func177 ps rs (C k) (.seq .auto (.seq .auto (.seq (.own [(4,2),(9,2)]) (.seq .auto (.mask mr .auto))))) ⟨tr,tr,tr,tr,tr⟩ (fn k)
end G.Qdk
namespace G.Qds
abbrev ps:Mk:=sL 1 (sS [])
abbrev rs:Mk:=sS []
abbrev c0:Mk:=sL 1 (sS (n3 (sI (nM 69 []))))
abbrev c1:Mk:=sL 1 (sS (n3 (sI (nM 33 (sL 1 (sI (sI (nM 33 []))))))))
abbrev c10:Mk:=n1 (sS (n6 (sP (nM 54 (sL 1 (sI (sI (n9 []))))))))
abbrev c11:Mk:=n1 (sS (n6 (sP (nM 54 (sL 1 (sI (sI (sB (n8 [])))))))))
abbrev c13:Mk:=n1 (sS (n6 (sP (n1 (sS (nM 52 (sL 1 (sI (sI (n9 []))))))))))
abbrev c2:Mk:=sL 1 (sS (n3 (sI (nM 33 (sL 1 (sI (sI (sB (nM 32 [])))))))))
abbrev c4:Mk:=sL 1 (sS (n3 (sI (n1 (sS (nM 31 (sL 1 (sI (sI (nM 33 []))))))))))
abbrev c7:Mk:=sL 1 (sS (n3 (sI (n2 (sP (nM 66 []))))))
abbrev c8:Mk:=sL 1 (sS (n6 (sP (nM 66 []))))
abbrev z10:Mk:=n8 (sP (nM 66 []))
abbrev mr:Mk:=n4 (sS (nM 70 []))
abbrev T4:=BA×U1
abbrev T3:=LL×BA×Int×U1
abbrev T2:=BA×N2×LL×Int×Int×U1
abbrev T1:=LL×BA×Int×LL×Int×Int×U1
abbrev T0:=LL×BA×Int×BA×LL×Int×Int×U1
def C (k:Nat):List (Ent PG R):=[⟨176,H.Grow.h k,H.Grow.ok k⟩,Qdk.en k,⟨178,H.bString.h k,H.bString.ok k⟩]
def q13 (k:Nat) (Jnrm:Kt R T2)  (x:(BA×N2×BA×LL×Int×Int×U1)) (S:LL):Option R :=
 Qdk.fn k (x.2.1,x.1,()) S fun r20 S=>Qdk.fn k (x.2.1,x.2.2.1,()) S fun r21 S=>Jnrm (x.1,x.2.1,x.2.2.2) S
def Q13 (k:Nat):Pc PG R (su Tryz.f119 209663):=mkEnd T_ok (C k) _ c13 c10 (.seq .auto .auto) ⟨tr,tr⟩ (fun x S K=>q13 k (kN K c10) x S)
def q5 (k:Nat) (Jnrm:Kt R T1)  (x:T0) (S:LL):Option R :=
 Jnrm (x.1,x.2.1,(IntKind.wrap .i64 (x.2.2.1+(x.2.2.2.1.size:Int))),x.2.2.2.2) S
def Q5 (k:Nat):Pc PG R (su Tryz.f119 29487):=mkEnd T_ok (C k) _ c4 c1 (.auto) tr (fun x S K=>q5 k (kN K c1) x S)
def q12 (k:Nat) (Jnrm:Kt R T2)  (x:T2) (S:LL):Option R :=
 idxL x.2.2.1 x.2.2.2.2.1 fun v18=>asStr (leaf v18 0) fun s19=>q13 k (fun o22 S=>Jnrm (o22.1,o22.2.1,o22.2.2.1,o22.2.2.2.1,(IntKind.wrap .i64 (o22.2.2.2.2.1+1)),()) S) (x.1,x.2.1,s19,x.2.2) S
def Q12 (k:Nat):Pc PG R (su Tryz.f119 29439):=mkEnd T_ok (C k) _ c10 c10 (.seq (.block (.seq .auto (.piece (Q13 k).h))) .auto) ⟨⟨tr,(Q13 k).ok⟩,tr⟩ (fun x S K=>q12 k (kN K c10) x S)
def q4 (k:Nat) (Jnrm:Kt R T1)  (x:T0) (S:LL):Option R :=
 ifB (decide ((x.2.2.2.1.size:Int)>(IntKind.wrap .i64 ((9223372036854775807:Int)-x.2.2.1)))) (none) (q5 k Jnrm x S)
def Q4 (k:Nat):Pc PG R (su Tryz.f119 13103):=mkEnd T_ok (C k) _ c4 c1 (.seq (.seq .auto (.cond .auto .auto)) (.piece (Q5 k).h)) ⟨⟨tr,tr,tr⟩,(Q5 k).ok⟩ (fun x S K=>q4 k (kN K c1) x S)
def q11 (k:Nat) (Jnrm:Kt R T2) (J3:Kt R (N2×U1)) (x:(BA×N2×LL×Int×Int×Bool×U1)) (S:LL):Option R :=
 ifB x.2.2.2.2.2.1 (q12 k Jnrm (x.1,x.2.1,x.2.2.1,x.2.2.2.1,x.2.2.2.2.1,()) S) (J3 (x.2.1,()) S)
def Q11 (k:Nat):Pc PG R (su Tryz.f119 13055):=mkEnd T_ok (C k) _ c11 c10 (.seq (.cond .auto (.mask z10 .auto)) (.piece (Q12 k).h)) ⟨⟨tr,tr⟩,(Q12 k).ok⟩ (fun x S K=>q11 k (kN K c10) (kX K 3 z10) x S)
def b1 (k:Nat) (J3:Kt R (N2×U1)) (rec:Kt R T2) (x:T2) (S:LL):Option R :=
 q11 k rec J3 (x.1,x.2.1,x.2.2.1,x.2.2.2.1,x.2.2.2.2.1,(decide (x.2.2.2.2.1<x.2.2.2.1)),()) S
def L1 (k:Nat):Pc PG R (.loop (su Tryz.f119 4863)):=mkLoop T_ok (C k) _ c10 k (.seq .auto (.piece (Q11 k).h)) ⟨tr,(Q11 k).ok⟩ (fun K=>b1 k (kX K 3 z10))
def q3 (k:Nat) (Jnrm:Kt R T1)  (x:T1) (S:LL):Option R :=
 idxL x.2.2.2.1 x.2.2.2.2.2.1 fun v3=>asStr (leaf v3 0) fun s4=>q4 k (fun o6 S=>Jnrm (o6.1,o6.2.1,o6.2.2.1,o6.2.2.2.1,o6.2.2.2.2.1,(IntKind.wrap .i64 (o6.2.2.2.2.2.1+1)),()) S) (x.1,x.2.1,x.2.2.1,s4,x.2.2.2) S
def Q3 (k:Nat):Pc PG R (su Tryz.f119 1839):=mkEnd T_ok (C k) _ c1 c1 (.seq (.block (.seq .auto (.piece (Q4 k).h))) .auto) ⟨⟨tr,(Q4 k).ok⟩,tr⟩ (fun x S K=>q3 k (kN K c1) x S)
def q10 (k:Nat) (Jnrm:Kt R (N2×U1))  (x:T2) (S:LL):Option R :=
 rounds (b1 k Jnrm) k x S
def Q10 (k:Nat):Pc PG R (su Tryz.f119 1791):=mkEnd T_ok (C k) _ c10 z10 (.block (.piece (L1 k).h)) (L1 k).ok (fun x S K=>q10 k (kN K z10) x S)
def q2 (k:Nat) (Jnrm:Kt R T1) (J1:Kt R T3) (x:(LL×BA×Int×LL×Int×Int×Bool×U1)) (S:LL):Option R :=
 ifB x.2.2.2.2.2.2.1 (q3 k Jnrm (x.1,x.2.1,x.2.2.1,x.2.2.2.1,x.2.2.2.2.1,x.2.2.2.2.2.1,()) S) (J1 (x.1,x.2.1,x.2.2.1,()) S)
def Q2 (k:Nat):Pc PG R (su Tryz.f119 815):=mkEnd T_ok (C k) _ c2 c1 (.seq (.cond .auto (.mask c0 .auto)) (.piece (Q3 k).h)) ⟨⟨tr,tr⟩,(Q3 k).ok⟩ (fun x S K=>q2 k (kN K c1) (kX K 1 c0) x S)
def q9 (k:Nat) (Jret:Kt R T4) (x:(LL×BA×N2×U1)) (S:LL):Option R :=
 slL x.1 (1:Int) (x.1.length:Int) fun l17=>q10 k (fun o27 S=>H.bString.fn k o27 S Jret) (x.2.1,x.2.2.1,l17,(l17.length:Int),0,()) S
def Q9 (k:Nat):Pc PG R (su Tryz.f119 511):=mkCut T_ok (C k) _ c8 (.seq (.seq .auto (.piece (Q10 k).h)) (.seq .auto (.mask mr .auto))) ⟨⟨tr,(Q10 k).ok⟩,tr,tr⟩ (fun x S K=>q9 k (kR K mr) x S)
def b0 (k:Nat) (J1:Kt R T3) (rec:Kt R T1) (x:T1) (S:LL):Option R :=
 q2 k rec J1 (x.1,x.2.1,x.2.2.1,x.2.2.2.1,x.2.2.2.2.1,x.2.2.2.2.2.1,(decide (x.2.2.2.2.2.1<x.2.2.2.2.1)),()) S
def L0 (k:Nat):Pc PG R (.loop (su Tryz.f119 303)):=mkLoop T_ok (C k) _ c1 k (.seq .auto (.piece (Q2 k).h)) ⟨tr,(Q2 k).ok⟩ (fun K=>b0 k (kX K 1 c0))
def q8 (k:Nat) (Jret:Kt R T4) (x:(LL×BA×N2×U1)) (S:LL):Option R :=
 idxL x.1 (0:Int) fun v14=>asStr (leaf v14 0) fun s15=>Qdk.fn k (x.2.2.1,s15,()) S fun r16 S=>q9 k Jret x S
def Q8 (k:Nat):Pc PG R (su Tryz.f119 255):=mkCut T_ok (C k) _ c8 (.seq .auto (.piece (Q9 k).h)) ⟨tr,(Q9 k).ok⟩ (fun x S K=>q8 k (kR K mr) x S)
def q1 (k:Nat) (Jnrm:Kt R T3)  (x:T1) (S:LL):Option R :=
 rounds (b0 k Jnrm) k x S
def Q1 (k:Nat):Pc PG R (su Tryz.f119 111):=mkEnd T_ok (C k) _ c1 c0 (.block (.piece (L0 k).h)) (L0 k).ok (fun x S K=>q1 k (kN K c0) x S)
def q7 (k:Nat) (Jret:Kt R T4) (x:(LL×BA×Int×N2×U1)) (S:LL):Option R :=
 H.Grow.fn k (x.2.2.2.1,x.2.2.1,()) S fun r13 S=>q8 k Jret (x.1,x.2.1,x.2.2.2) S
def Q7 (k:Nat):Pc PG R (su Tryz.f119 127):=mkCut T_ok (C k) _ c7 (.seq .auto (.piece (Q8 k).h)) ⟨tr,(Q8 k).ok⟩ (fun x S K=>q7 k (kR K mr) x S)
def q6 (k:Nat) (Jret:Kt R T4) (x:T3) (S:LL):Option R :=
 newObj S (.obj 186 [.nilp,.nilsl]) fun i12 S=>q7 k Jret (x.1,x.2.1,x.2.2.1,(i12,0),()) S
def Q6 (k:Nat):Pc PG R (su Tryz.f119 63):=mkCut T_ok (C k) _ c0 (.seq (.own [(0,1)]) (.piece (Q7 k).h)) ⟨tr,(Q7 k).ok⟩ (fun x S K=>q6 k (kR K mr) x S)
def q0 (k:Nat) (Jret:Kt R T4) (x:T3) (S:LL):Option R :=
 q1 k (fun o11 S=>q6 k Jret o11 S) (x.1,x.2.1,x.2.2.1,x.1,(x.1.length:Int),0,()) S
def Q0 (k:Nat):Pc PG R (su Tryz.f119 31):=mkCut T_ok (C k) _ c0 (.seq (.seq .auto (.piece (Q1 k).h)) (.piece (Q6 k).h)) ⟨⟨tr,(Q1 k).ok⟩,(Q6 k).ok⟩ (fun x S K=>q0 k (kR K mr) x S)
def fn0 (k:Nat) (x:(LL×BA×U1)) (S:LL) (K:Kt R T4):Option R :=
 ifB ((x.1.length:Int)==0) (K ((bs []),()) S) (ifB ((x.1.length:Int)==1) (idxL x.1 (0:Int) fun v1=>asStr (leaf v1 0) fun s2=>K (s2,()) S) (ifB (decide ((x.2.1.size:Int)>0)) (ifB (decide ((IntKind.wrap .i64 ((x.1.length:Int)-1))=0)) (none) (ifB (decide ((x.2.1.size:Int)≥(IntKind.wrap .i64 (Int.tdiv (9223372036854775807:Int) (IntKind.wrap .i64 ((x.1.length:Int)-1)))))) (none) (q0 k K (x.1,x.2.1,(IntKind.wrap .i64 ((0:Int)+(IntKind.wrap .i64 ((x.2.1.size:Int)*(IntKind.wrap .i64 ((x.1.length:Int)-1)))))),()) S))) (q0 k K (x.1,x.2.1,0,()) S)))
def en0 (k:Nat):Ent PG R:=mkFn T_ok Tryz.func119 ps rs (C k) (.seq .auto (.seq (.seq .auto (.block (.seq .auto (.cond (.seq .auto (.mask mr .auto)) (.seq .auto (.cond (.seq .auto (.mask mr .auto)) .auto)))))) (.seq .auto (.seq (.seq .auto (.cond (.seq (.seq .auto (.cond .auto .auto)) .auto) .auto)) (.piece (Q0 k).h))))) ⟨tr,⟨tr,tr,⟨tr,tr⟩,tr,⟨tr,tr⟩,tr⟩,tr,⟨tr,⟨⟨tr,tr,tr⟩,tr⟩,tr⟩,(Q0 k).ok⟩ (fn0 k)
def fn (k:Nat) (x:(LL×BA×U1)) (S:LL) (K:Kt R T4):Option R:=popK rs 6 S (fn0 k x S fun r S=>some (resE rs r,S)) K
def en (k:Nat):Ent PG R:=mkPop (rs:=rs) (en0 k).ok
end G.Qds
namespace G.Qbk
abbrev ps:Mk:=sP (sL 1 [])
abbrev rs:Mk:=sI []
abbrev mr:Mk:=n4 (sI (nM 16 []))
def C (k:Nat):List (Ent PG R):=[Qds.en k]
def fn (k:Nat) (x:(N2×LL×U1)) (S:LL) (K:Kt R (Int×U1)):Option R :=
 objAt S x.1.1 fun ty c1=>ldStr c1 (x.1.2+9) fun s2=>Qds.fn k (x.2.1,(bs [32]),()) S fun r3 S'=>quiR S S' fun S=>catStr s2 r3.1 fun s4=>catStr s4 (bs [10]) fun s5=>ifB (decide ((s5.size:Int)>100000)) (K (5,()) S) (objAt S x.1.1 fun ty c6=>stO c6 (x.1.2+9) [(.str s5)] fun c7=>setS (S.set x.1.1 (ty c7)) fun S=>K (0,()) S)
def en (k:Nat):Ent PG R:=mkFn T_ok Tryz.func91 ps rs (C k) (.seq .auto (.seq (.quiet [(3,1)] [0,1,2,4,3,5,6,7,8]) (.seq (.seq .auto (.cond (.seq .auto (.mask mr .auto)) .auto)) (.seq (.own [(4,1)]) (.seq .auto (.mask mr .auto)))))) ⟨tr,(quiet_an (by kernel_rfl)),⟨tr,⟨tr,tr⟩,tr⟩,tr,tr,tr⟩ (fn k)
end G.Qbk
namespace G.Qbo
abbrev ps:Mk:=sL 1 []
abbrev rs:Mk:=sS []
abbrev e0:Mk:=n3 (sh (.lf (.int .u64)) (nM 34 []))
abbrev e2:Mk:=n6 (sQ 1 (nM 31 []))
abbrev m0:Mk:=n3 (sh (.lf (.int .u64)) (n4 (sL 1 (sI (sI (nM 27 []))))))
abbrev m1:Mk:=n3 (sh (.lf (.int .u64)) (n2 (sQ 1 (nM 15 (sI (sI (nM 14 [])))))))
abbrev mr:Mk:=n2 (sS (nM 35 []))
abbrev T1:=Int×N3×Int×Int×U1
abbrev T0:=Int×LL×Int×Int×U1
def C (k:Nat):List (Ent PG R):=[]
def b1 (k:Nat) (J2:Kt R (N3×U1)) (rec:Kt R T1) (x:T1) (S:LL):Option R :=
 ifB (decide (x.2.2.2.1<x.2.2.1)) (idxStr (bs [48,49,50,51,52,53,54,55,56,57,97,98,99,100,101,102]) (bitI .and .u64 x.1 (15:Int)) fun c6=>idxN x.2.1.2.2 (IntKind.wrap .i64 ((15:Int)-x.2.2.2.1)) fun v7=>objAt S x.2.1.1 fun ty c8=>stO c8 (x.2.1.2.1+v7*1) [(.int .u8 c6)] fun c9=>setS (S.set x.2.1.1 (ty c9)) fun S=>ifB (decide ((4:Int)<0)) (none) (rec ((shI .shr .u64 x.1 (4:Int)),x.2.1,x.2.2.1,(IntKind.wrap .i64 (x.2.2.2.1+1)),()) S)) (J2 (x.2.1,()) S)
def L1 (k:Nat):Pc PG R (.loop (su Tryz.f78 303)):=mkLoop T_ok (C k) _ m1 k (.seq .auto (.seq (.cond .auto (.mask e2 .auto)) (.seq (.block (.seq .auto (.seq (.own [(7,1)]) .auto))) .auto))) ⟨tr,⟨tr,tr⟩,⟨tr,tr,tr⟩,tr⟩ (fun K=>b1 k (kX K 2 e2))
def b0 (k:Nat) (J0:Kt R (Int×U1)) (rec:Kt R T0) (x:T0) (S:LL):Option R :=
 ifB (decide (x.2.2.2.1<x.2.2.1)) (idxL x.2.1 x.2.2.2.1 fun v1=>asInt .u8 (leaf v1 0) fun n2=>rec ((IntKind.wrap .u64 ((bitI .xor .u64 x.1 (IntKind.wrap .u64 n2))*(1099511628211:Int))),x.2.1,x.2.2.1,(IntKind.wrap .i64 (x.2.2.2.1+1)),()) S) (J0 (x.1,()) S)
def L0 (k:Nat):Pc PG R (.loop (su Tryz.f78 75)):=mkLoop T_ok (C k) _ m0 k (.seq .auto (.seq (.cond .auto (.mask e0 .auto)) (.seq (.block (.seq .auto .auto)) .auto))) ⟨tr,⟨tr,tr⟩,⟨tr,tr⟩,tr⟩ (fun K=>b0 k (kX K 0 e0))
def fn0 (k:Nat) (x:(LL×U1)) (S:LL) (K:Kt R (BA×U1)):Option R :=
 rounds (b0 k (fun o3 S=>ifB (decide ((16:Int)=16)) (mkN (16:Int) 1 fun m4=>newObj S (.obj 5 (zeros m4 [(.int .u8 (0:Int))])) fun i5 S=>rounds (b1 k (fun o10 S=>objAt S o10.1.1 fun ty c11=>ifB (Nat.beq o10.1.2.1 0&&Nat.beq (o10.1.2.2*1) c11.length&&Nat.blt 0 1&&Nat.ble o10.1.2.2 9223372036854775807) (setS (S.set o10.1.1 .any) fun S=>strOf (chunks 1 o10.1.2.2 c11) fun s12=>K (s12,()) S) none)) k (o3.1,(i5,0,m4),(m4:Int),0,()) S) none)) k ((14695981039346656037:Int),x.1,(x.1.length:Int),0,()) S
def en0 (k:Nat):Ent PG R:=mkFn T_ok Tryz.func78 ps rs (C k) (.seq .auto (.seq .auto (.seq (.seq .auto (.block (.piece (L0 k).h))) (.seq .auto (.seq (.seq .auto (.block (.piece (L1 k).h))) (.seq (.frz 6 (.auto)) (.mask mr .auto))))))) ⟨tr,tr,⟨tr,(L0 k).ok⟩,tr,⟨tr,(L1 k).ok⟩,tr,tr⟩ (fn0 k)
def fn (k:Nat) (x:(LL×U1)) (S:LL) (K:Kt R (BA×U1)):Option R:=popK rs 6 S (fn0 k x S fun r S=>some (resE rs r,S)) K
def en (k:Nat):Ent PG R:=mkPop (rs:=rs) (en0 k).ok
end G.Qbo
namespace G.Qbc
abbrev ps:Mk:=sP (sS [])
abbrev rs:Mk:=sA [.str,.bool,.sl 1] (sB [])
abbrev c0:Mk:=sP (sS (n2 (sX [.str,.bool,.own 5 1] (n3 (sX [.str,.bool,.sl 1] (sB (nM 52 [])))))))
abbrev c1:Mk:=sP (sS (n2 (sX [.str,.bool,.own 5 1] (n3 (sX [.str,.bool,.sl 1] (sB (n1 (sB (nM 50 [])))))))))
abbrev c2:Mk:=sP (sS (n2 (sX [.str,.bool,.own 5 1] (n3 (sX [.str,.bool,.sl 1] (sB (nM 33 (sB (nM 18 [])))))))))
abbrev c3:Mk:=sP (sS (n2 (sX [.str,.bool,.own 5 1] (n3 (sX [.str,.bool,.sl 1] (sB (n2 (sP (nM 49 [])))))))))
abbrev c4:Mk:=sP (sS (n2 (sX [.str,.bool,.own 5 1] (n3 (sX [.str,.bool,.sl 1] (sB (n2 (sP (nM 33 (sB (nM 15 [])))))))))))
abbrev c6:Mk:=n4 (sX [.str,.bool,.own 5 1] (n3 (sX [.str,.bool,.sl 1] (sB (nM 52 [])))))
abbrev mr:Mk:=n4 (sX [.str,.bool,.sl 1] (sB (nM 56 [])))
abbrev T4:=BA×Bool×LL×U1
abbrev T3:=T4×Bool×U1
abbrev T2:=T4×T4×Bool×U1
abbrev T1:=N2×BA×T4×T4×Bool×N2×U1
abbrev T0:=N2×BA×T4×T4×Bool×Bool×U1
def C (k:Nat):List (Ent PG R):=[Qbo.en k]
def q4 (k:Nat) (Jnrm:Kt R T1)  (x:(N2×BA×T4×T4×Bool×N2×Bool×U1)) (S:LL):Option R :=
 ifB x.2.2.2.2.2.2.1 (Qbo.fn k x.2.2.2.1.2.2 S fun r28 S=>objAt S x.2.2.2.2.2.1.1 fun ty c29=>stO c29 (x.2.2.2.2.2.1.2+1) [(.str r28.1)] fun c30=>setS (S.set x.2.2.2.2.2.1.1 (ty c30)) fun S=>objAt S x.2.2.2.2.2.1.1 fun ty c31=>stO c31 (x.2.2.2.2.2.1.2+2) [(.bool x.2.2.2.1.2.1)] fun c32=>setS (S.set x.2.2.2.2.2.1.1 (ty c32)) fun S=>Jnrm (x.1,x.2.1,x.2.2.1,x.2.2.2.1,x.2.2.2.2.1,x.2.2.2.2.2.1,()) S) (Jnrm (x.1,x.2.1,x.2.2.1,x.2.2.2.1,x.2.2.2.2.1,x.2.2.2.2.2.1,()) S)
def Q4 (k:Nat):Pc PG R (su Tryz.f132 1719):=mkEnd T_ok (C k) _ c4 c3 (.cond (.drawn [(6,1),(8,1)] [0,1,3,4,2,5,6,7,8]) .auto) ⟨(drawn_an (by kernel_rfl)),tr⟩ (fun x S K=>q4 k (kN K c3) x S)
def q5 (k:Nat) (Jnrm:Kt R T2)  (x:T1) (S:LL):Option R :=
 objAt S x.1.1 fun ty c34=>ldRaw c34 (x.1.2+8) fun v35=>asMap v35 fun i36=>objAt S x.2.2.2.2.2.1.1 fun ty c37=>ifB (Nat.ble (x.2.2.2.2.2.1.2+3) c37.length) (asStr ((c37.map dupL).getD x.2.2.2.2.2.1.2 .any) fun s38=>asStr ((c37.map dupL).getD (x.2.2.2.2.2.1.2+1) .any) fun s39=>asBool ((c37.map dupL).getD ((x.2.2.2.2.2.1.2+1)+1) .any) fun b40=>mpAt S i36 .str fun m41=>setS (S.set i36 (.mp .str (mapPut m41 (.str x.2.1) (.agg [(.str s38),(.str s39),(.bool b40)])))) fun S=>Jnrm (x.2.2.1,x.2.2.2.1,x.2.2.2.2.1,()) S) none
def Q5 (k:Nat):Pc PG R (su Tryz.f132 951):=mkEnd T_ok (C k) _ c3 c6 (.drawn [(3,3),(5,1)] [0,1,2,4,3,5,6]) (drawn_an (by kernel_rfl)) (fun x S K=>q5 k (kN K c6) x S)
def q3 (k:Nat) (Jnrm:Kt R T2)  (x:T1) (S:LL):Option R :=
 q4 k (fun o33 S=>q5 k Jnrm o33 S) (x.1,x.2.1,x.2.2.1,x.2.2.2.1,x.2.2.2.2.1,x.2.2.2.2.2.1,x.2.2.2.2.1,()) S
def Q3 (k:Nat):Pc PG R (su Tryz.f132 439):=mkEnd T_ok (C k) _ c3 c6 (.seq (.seq .auto (.piece (Q4 k).h)) (.piece (Q5 k).h)) ⟨⟨tr,(Q4 k).ok⟩,(Q5 k).ok⟩ (fun x S K=>q3 k (kN K c6) x S)
def q2 (k:Nat) (Jnrm:Kt R T2)  (x:T0) (S:LL):Option R :=
 ifB x.2.2.2.2.2.1 (newObj S (.obj 38 [(.str (bs [])),(.str (bs [])),(.bool false)]) fun i25 S=>objAt S i25 fun ty c26=>stO c26 0 [(.str x.2.1),(.str (bs [])),(.bool false)] fun c27=>setS (S.set i25 (ty c27)) fun S=>q3 k Jnrm (x.1,x.2.1,x.2.2.1,x.2.2.2.1,x.2.2.2.2.1,(i25,0),()) S) (Jnrm (x.2.2.1,x.2.2.2.1,x.2.2.2.2.1,()) S)
def Q2 (k:Nat):Pc PG R (su Tryz.f132 119):=mkEnd T_ok (C k) _ c2 c6 (.cond (.seq (.own [(2,1),(3,1)]) (.piece (Q3 k).h)) .auto) ⟨⟨tr,(Q3 k).ok⟩,tr⟩ (fun x S K=>q2 k (kN K c6) x S)
def q1 (k:Nat) (Jnrm:Kt R T2)  (x:T0) (S:LL):Option R :=
 q2 k Jnrm (x.1,x.2.1,x.2.2.1,x.2.2.2.1,x.2.2.2.2.1,(!x.2.2.2.2.2.1),()) S
def Q1 (k:Nat):Pc PG R (su Tryz.f132 55):=mkEnd T_ok (C k) _ c1 c6 (.seq .auto (.piece (Q2 k).h)) ⟨tr,(Q2 k).ok⟩ (fun x S K=>q1 k (kN K c6) x S)
def q6 (k:Nat) (Jret:Kt R T3) (x:T2) (S:LL):Option R :=
 Jret x.2 S
def Q6 (k:Nat):Pc PG R (su Tryz.f132 31):=mkCut T_ok (C k) _ c6 (.seq .auto (.mask mr .auto)) ⟨tr,tr⟩ (fun x S K=>q6 k (kR K mr) x S)
def q0 (k:Nat) (Jret:Kt R T3) (x:(N2×BA×T4×T4×Bool×U1)) (S:LL):Option R :=
 objAt S x.1.1 fun ty c17=>ldRaw c17 (x.1.2+8) fun v18=>asMap v18 fun i19=>mpAt S i19 .str fun m20=>mat 3 ((mapGet m20 (.str x.2.1)).getD (.agg [(.str (bs [])),(.str (bs [])),(.bool false)])) fun c21=>asStr (c21.getD 0 .any) fun s22=>asStr (c21.getD 1 .any) fun s23=>asBool (c21.getD 2 .any) fun b24=>q1 k (fun o45 S=>q6 k Jret o45 S) (x.1,x.2.1,x.2.2.1,x.2.2.2.1,x.2.2.2.2.1,(mapGet m20 (.str x.2.1)).isSome,()) S
def Q0 (k:Nat):Pc PG R (su Tryz.f132 15):=mkCut T_ok (C k) _ c0 (.seq (.seq (.own [(3,3),(6,1)]) (.piece (Q1 k).h)) (.piece (Q6 k).h)) ⟨⟨tr,(Q1 k).ok⟩,(Q6 k).ok⟩ (fun x S K=>q0 k (kR K mr) x S)
def fn (k:Nat) (x:(N2×BA×U1)) (S:LL) (K:Kt R T3):Option R :=
 objAt S x.1.1 fun ty c1=>ldRaw c1 (x.1.2+7) fun v2=>asMap v2 fun i3=>mpAt S i3 .str fun m4=>mat 3 ((mapGet m4 (.str x.2.1)).getD (.agg [(.str (bs [])),(.bool false),.nilsl])) fun c5=>asStr (c5.getD 0 .any) fun s6=>asBool (c5.getD 1 .any) fun b7=>asSl 1 (c5.getD 2 .any) fun l8=>ifB (mapGet m4 (.str x.2.1)).isSome (K ((s6,b7,l8,()),true,()) S) (objAt S x.1.1 fun ty c9=>ldRaw c9 (x.1.2+6) fun v10=>asMap v10 fun i11=>mpAt S i11 .str fun m12=>mat 3 ((mapGet m12 (.str x.2.1)).getD (.agg [(.str (bs [])),(.bool false),.nilsl])) fun c13=>asStr (c13.getD 0 .any) fun s14=>asBool (c13.getD 1 .any) fun b15=>asSl 1 (c13.getD 2 .any) fun l16=>q0 k K (x.1,x.2.1,((bs []),false,[],()),(s14,b15,l16,()),(mapGet m12 (.str x.2.1)).isSome,()) S)
def en (k:Nat):Ent PG R:=mkFn T_ok Tryz.func132 ps rs (C k) (.seq .auto (.seq (.seq (.own [(3,3),(6,1)]) (.seq .auto (.cond (.seq .auto (.mask mr .auto)) .auto))) (.seq (.own [(3,3),(6,1)]) (.piece (Q0 k).h)))) ⟨tr,⟨tr,tr,⟨tr,tr⟩,tr⟩,tr,(Q0 k).ok⟩ (fn k)
end G.Qbc
namespace G.Qbh
abbrev ps:Mk:=sP (sS [])
abbrev rs:Mk:=sL 1 (sI [])
abbrev mr:Mk:=n4 (sL 1 (sI (nM 12 [])))
def C (k:Nat):List (Ent PG R):=[Qbc.en k]
def fn (k:Nat) (x:(N2×BA×U1)) (S:LL) (K:Kt R (LL×Int×U1)):Option R :=
 Qbc.fn k x S fun r1 S=>ifB (!r1.2.1) (K ([],2,()) S) (K (r1.1.2.2.1,0,()) S)
def en (k:Nat):Ent PG R:=mkFn T_ok Tryz.func92 ps rs (C k) (.seq .auto (.seq (.own [(3,1)]) (.seq (.seq .auto (.cond (.seq .auto (.mask mr .auto)) .auto)) (.seq .auto (.mask mr .auto))))) ⟨tr,tr,⟨tr,⟨tr,tr⟩,tr⟩,tr,tr⟩ (fn k)
end G.Qbh
namespace G.Qbx
abbrev ps:Mk:=sL 1 (sL 1 [])
abbrev rs:Mk:=sB []
abbrev mr:Mk:=n4 (sB (n5 []))
def C (k:Nat):List (Ent PG R):=[]
def fn (k:Nat) (x:(LL×LL×U1)) (S:LL) (K:Kt R (Bool×U1)):Option R :=
 strOf x.1 fun s1=>strOf x.2.1 fun s2=>K ((strEq s1 s2),()) S
def en (k:Nat):Ent PG R:=mkFn T_ok Tryz.func44 ps rs (C k) (.seq .auto (.seq .auto (.mask mr .auto))) ⟨tr,tr,tr⟩ (fn k)
end G.Qbx
namespace G.Qbj
abbrev ps:Mk:=sP (sS (sS []))
abbrev rs:Mk:=sI []
abbrev mr:Mk:=n6 (sI (nM 25 []))
def C (k:Nat):List (Ent PG R):=[Qbx.en k,Qbh.en k]
def fn (k:Nat) (x:(N2×BA×BA×U1)) (S:LL) (K:Kt R (Int×U1)):Option R :=
 Qbh.fn k (x.1,x.2.1,()) S fun r1 S=>ifB (r1.2.1 != 0) (K r1.2 S) (Qbh.fn k (x.1,x.2.2) S fun r2 S=>ifB (r2.2.1 != 0) (K r2.2 S) (Qbx.fn k (r1.1,r2.1,()) S fun r3 S=>ifB (!r3.1) (K (4,()) S) (K (0,()) S)))
def en (k:Nat):Ent PG R:=mkFn T_ok Tryz.func93 ps rs (C k) (.seq .auto (.seq (.own [(3,1)]) (.seq (.seq .auto (.cond (.seq .auto (.mask mr .auto)) .auto)) (.seq (.own [(3,1)]) (.seq (.seq .auto (.cond (.seq .auto (.mask mr .auto)) .auto)) (.seq (.seq .auto (.cond (.seq .auto (.mask mr .auto)) .auto)) (.seq .auto (.mask mr .auto)))))))) ⟨tr,tr,⟨tr,⟨tr,tr⟩,tr⟩,tr,⟨tr,⟨tr,tr⟩,tr⟩,⟨tr,⟨tr,tr⟩,tr⟩,tr,tr⟩ (fn k)
end G.Qbj
namespace G.Qbd
abbrev ps:Mk:=sP (sL 1 [])
abbrev rs:Mk:=sO 5 1 (sI [])
abbrev e0:Mk:=n6 (sO 5 1 (nM 24 []))
abbrev m0:Mk:=sP (n5 (sO 5 1 (n4 (sL 1 (sI (sI (nM 17 [])))))))
abbrev mr:Mk:=n4 (sO 5 1 (sI (nM 25 [])))
abbrev T0:=N2×LL×LL×Int×Int×U1
def C (k:Nat):List (Ent PG R):=[Qbh.en k]
def b0 (k:Nat) (J0:Kt R (LL×U1)) (Jret:Kt R (LL×Int×U1)) (rec:Kt R T0) (x:T0) (S:LL):Option R :=
 ifB (decide (x.2.2.2.2.1<x.2.2.2.1)) (idxL x.2.2.1 x.2.2.2.2.1 fun v1=>asStr (leaf v1 0) fun s2=>Qbh.fn k (x.1,s2,()) S fun r3 S=>ifB (r3.2.1 != 0) (Jret ([],r3.2) S) (app 1 x.2.1 r3.1 fun l4=>rec (x.1,l4,x.2.2.1,x.2.2.2.1,(IntKind.wrap .i64 (x.2.2.2.2.1+1)),()) S)) (J0 (x.2.1,()) S)
def L0 (k:Nat):Pc PG R (.loop (su Tryz.f135 75)):=mkLoop T_ok (C k) _ m0 k (.seq .auto (.seq (.cond .auto (.mask e0 .auto)) (.seq (.block (.seq .auto (.seq (.own [(3,1)]) (.seq (.seq .auto (.cond (.seq .auto (.mask mr .auto)) .auto)) (.own [(0,1)]))))) .auto))) ⟨tr,⟨tr,tr⟩,⟨tr,tr,⟨tr,⟨tr,tr⟩,tr⟩,tr⟩,tr⟩ (fun K=>b0 k (kX K 0 e0) (kR K mr))
def fn (k:Nat) (x:(N2×LL×U1)) (S:LL) (K:Kt R (LL×Int×U1)):Option R :=
 rounds (b0 k (fun o5 S=>K (o5.1,0,()) S) K) k (x.1,[],x.2.1,(x.2.1.length:Int),0,()) S
def en (k:Nat):Ent PG R:=mkFn T_ok Tryz.func135 ps rs (C k) (.seq .auto (.seq .auto (.seq (.seq .auto (.block (.piece (L0 k).h))) (.seq (.own [(0,1)]) (.mask mr .auto))))) ⟨tr,tr,⟨tr,(L0 k).ok⟩,tr,tr⟩ (fn k)
end G.Qbd
namespace G.Qcq
abbrev ps:Mk:=sL 1 []
abbrev rs:Mk:=sO 9 1 []
abbrev mr:Mk:=n2 (sO 9 1 (n5 []))
def C (k:Nat):List (Ent PG R):=[]
def fn (k:Nat) (x:(LL×U1)) (S:LL) (K:Kt R (LL×U1)):Option R :=
 isNil (.sl 1 x.1) fun b1=>ifB (b1==true) (K ([],()) S) (app 16 [] x.1 fun l2=>K (l2,()) S)
def en (k:Nat):Ent PG R:=mkFn T_ok Tryz.func54 ps rs (C k) (.seq .auto (.seq (.seq .auto (.cond (.seq .auto (.mask mr .auto)) .auto)) (.seq .auto (.mask mr .auto)))) ⟨tr,⟨tr,⟨tr,tr⟩,tr⟩,tr,tr⟩ (fn k)
def anC:An R:=.seq .auto (.seq (.seq .auto (.cond (.seq .auto (.mask mr .auto)) .auto)) (.seq .auto (.mask mr .auto)))
theorem body:HSound PG 54 (lbody T (entC (C (R:=R) 0)) anC Tryz.f54) :=
 lbody_ok T_ok (entC_ok _) (fun c hc=>by
  have:c=cd Tryz.f54:=by
   have e:Tryz.f54.body=some (cd Tryz.f54):=by kernel_rfl
   rw [e] at hc;cases hc;rfl
  subst this
  exact ⟨tr,⟨tr,⟨tr,tr⟩,tr⟩,tr,tr⟩) Tryz.func54 (enters_ok Tryz.func54 (by kernel_rfl) (by kernel_rfl))
end G.Qcq
namespace G.Qcr
abbrev ps:Mk:=[some (.lf (.sl 1))]
abbrev rs:Mk:=[some (.lf (.own 9 1))]
def fn (_k:Nat) (x:LL×U1) (S:LL) (K:Kt R (LL×U1)):Option R:=handF ps rs (cloneF 16) x S K
theorem ok (k:Nat):HSound PG 54 (hT (R:=R) ps fun x S K=>fn k x S fun r S=>K (resE rs r) S) :=
 hand_ok (enters_ok Tryz.func54 (by kernel_rfl) (by kernel_rfl)) (ps:=ps) (rs:=rs) (g:=cloneF 16) fun x r S hr=>by
  obtain ⟨xs,u⟩:=x
  obtain ⟨rfl,hd⟩:=cloneF_some hr
  refine LCalls.nilCases (fun h=>?_) ?_
  ·have h:xs=[]:=h
   subst h
   exact Qcq.body.calls (by kernel_rfl)
  ·exact Qcq.body.calls (Eq.trans (b:=app 16 [] xs fun l=>some (.own 9 1 l,S)) (by kernel_rfl) (by rw [app_at hd];rfl))
def en (k:Nat):Ent PG R:=⟨54,_,ok k⟩
end G.Qcr
namespace G.Qav
abbrev ps:Mk:=sL 1 []
abbrev rs:Mk:=sO 9 1 []
abbrev c0:Mk:=sL 1 (n2 (sO 9 1 (sI (nM 21 []))))
abbrev z0:Mk:=sL 1 (n2 (sO 9 1 (nM 22 [])))
abbrev e0:Mk:=n3 (sO 9 1 (nM 22 []))
abbrev mr:Mk:=n2 (sO 9 1 (nM 23 []))
abbrev T0:=LL×LL×U1
def C (k:Nat):List (Ent PG R):=[⟨200,H.BIndexByte.h k,H.BIndexByte.ok k⟩]
def q0 (k:Nat) (Jnrm:Kt R T0)  (x:(LL×LL×Int×U1)) (S:LL):Option R :=
 slL x.1 (0:Int) x.2.2.1 fun l2=>strOf l2 fun s3=>slL x.1 x.2.2.1 (x.1.length:Int) fun l4=>app 16 x.2.1 [(.str s3)] fun l5=>Jnrm (l4,l5,()) S
def Q0 (k:Nat):Pc PG R (su Tryz.f142 931):=mkEnd T_ok (C k) _ c0 z0 (.drawn [(0,1)] [0,1,2,3,4,5,7,8,9,6,10,11]) (drawn_an (by kernel_rfl)) (fun x S K=>q0 k (kN K z0) x S)
def b0 (k:Nat) (J0:Kt R (LL×U1)) (rec:Kt R T0) (x:T0) (S:LL):Option R :=
 ifB (decide ((x.1.length:Int)>0)) (H.BIndexByte.fn k (x.1,10,()) S fun r1 S=>ifB ((IntKind.wrap .i64 (r1.1+1))==0) (q0 k rec (x.1,x.2.1,(x.1.length:Int),()) S) (q0 k rec (x.1,x.2.1,(IntKind.wrap .i64 (r1.1+1)),()) S)) (J0 x.2 S)
def L0 (k:Nat):Pc PG R (.loop (su Tryz.f142 35)):=mkLoop T_ok (C k) _ z0 k (.seq (.seq .auto (.cond .auto (.mask e0 .auto))) (.block (.seq .auto (.seq (.seq .auto (.cond .auto .auto)) (.piece (Q0 k).h))))) ⟨⟨tr,tr,tr⟩,tr,⟨tr,tr,tr⟩,(Q0 k).ok⟩ (fun K=>b0 k (kX K 0 e0))
def fn (k:Nat) (x:(LL×U1)) (S:LL) (K:Kt R (LL×U1)):Option R :=
 rounds (b0 k K) k (x.1,[],()) S
def en (k:Nat):Ent PG R:=mkFn T_ok Tryz.func142 ps rs (C k) (.seq .auto (.seq .auto (.seq (.block (.piece (L0 k).h)) (.seq (.own [(0,1)]) (.mask mr .auto))))) ⟨tr,tr,(L0 k).ok,tr,tr⟩ (fn k)
end G.Qav
namespace G.Qce
abbrev ps:Mk:=sS (sS [])
abbrev rs:Mk:=sS []
abbrev mr:Mk:=n4 (sS (nM 11 []))
def C (k:Nat):List (Ent PG R):=[Qcd.en k]
def fn (k:Nat) (x:(BA×BA×U1)) (S:LL) (K:Kt R (BA×U1)):Option R :=
 Qcd.fn k x S fun r1 S=>ifB r1.1 (slStr x.1 (0:Int) (IntKind.wrap .i64 ((x.1.size:Int)-(x.2.1.size:Int))) fun s2=>K (s2,()) S) (K (x.1,()) S)
def en (k:Nat):Ent PG R:=mkFn T_ok Tryz.func230 ps rs (C k) (.seq .auto (.seq (.seq .auto (.cond (.seq .auto (.mask mr .auto)) .auto)) (.seq .auto (.mask mr .auto)))) ⟨tr,⟨tr,⟨tr,tr⟩,tr⟩,tr,tr⟩ (fn k)
end G.Qce
namespace G.Qdu
abbrev ps:Mk:=sS (sS [])
abbrev rs:Mk:=sS []
abbrev mr:Mk:=n4 (sS (n3 []))
def C (k:Nat):List (Ent PG R):=[Qce.en k]
def fn (k:Nat) (x:(BA×BA×U1)) (S:LL) (K:Kt R (BA×U1)):Option R :=
 Qce.fn k x S K
def en (k:Nat):Ent PG R:=mkFn T_ok Tryz.func195 ps rs (C k) (.seq .auto (.seq .auto (.mask mr .auto))) ⟨tr,tr,tr⟩ (fn k)
end G.Qdu
namespace G.Qca
abbrev ps:Mk:=sS (sS [])
abbrev rs:Mk:=sS (sB [])
abbrev mr:Mk:=n4 (sS (sB (n9 [])))
def C (k:Nat):List (Ent PG R):=[Qcc.en k]
def fn (k:Nat) (x:(BA×BA×U1)) (S:LL) (K:Kt R (BA×Bool×U1)):Option R :=
 Qcc.fn k x S fun r1 S=>ifB (!r1.1) (K (x.1,false,()) S) (slStr x.1 (x.2.1.size:Int) (x.1.size:Int) fun s2=>K (s2,true,()) S)
def en (k:Nat):Ent PG R:=mkFn T_ok Tryz.func229 ps rs (C k) (.seq .auto (.seq (.seq .auto (.cond (.seq .auto (.mask mr .auto)) .auto)) (.seq .auto (.mask mr .auto)))) ⟨tr,⟨tr,⟨tr,tr⟩,tr⟩,tr,tr⟩ (fn k)
end G.Qca
namespace G.Qdn
abbrev ps:Mk:=sS (sS [])
abbrev rs:Mk:=sS (sB [])
abbrev mr:Mk:=n4 (sS (sB (n5 [])))
def C (k:Nat):List (Ent PG R):=[Qca.en k]
def fn (k:Nat) (x:(BA×BA×U1)) (S:LL) (K:Kt R (BA×Bool×U1)):Option R :=
 Qca.fn k x S K
def en (k:Nat):Ent PG R:=mkFn T_ok Tryz.func194 ps rs (C k) (.seq .auto (.seq .auto (.mask mr .auto))) ⟨tr,tr,tr⟩ (fn k)
end G.Qdn
namespace G.Qap
abbrev ps:Mk:=sS []
abbrev rs:Mk:=sS []
abbrev mr:Mk:=n2 (sS (n3 []))
def C (k:Nat):List (Ent PG R):=[Qdu.en k]
def fn (k:Nat) (x:(BA×U1)) (S:LL) (K:Kt R (BA×U1)):Option R :=
 Qdu.fn k (x.1,(bs [10]),()) S fun r1 S=>catStr r1.1 (bs [10]) fun s2=>K (s2,()) S
def en (k:Nat):Ent PG R:=mkFn T_ok Tryz.func196 ps rs (C k) (.seq .auto (.seq .auto (.mask mr .auto))) ⟨tr,tr,tr⟩ (fn k)
end G.Qap
namespace G.Qaq
abbrev ps:Mk:=sP (sS (sL 1 []))
abbrev rs:Mk:=sI []
abbrev c0:Mk:=sP (sS (sL 1 (n4 (sL 1 (nM 85 [])))))
abbrev c2:Mk:=sP (n1 (sO 9 1 (n4 (sL 1 (nM 85 [])))))
abbrev c3:Mk:=sP (n1 (sO 9 1 (nM 49 (sO 9 1 (sI (sI (nM 38 [])))))))
abbrev c5:Mk:=sP (n1 (sO 9 1 (n7 (sS (sS (nM 40 (sO 9 1 (sI (sI (nM 13 (sB (nM 24 []))))))))))))
abbrev c6:Mk:=sP (n1 (sO 9 1 (n7 (sS (nM 41 (sO 9 1 (sI (sI (nM 38 [])))))))))
abbrev z3:Mk:=nM 93 []
abbrev mr:Mk:=n6 (sI (nM 86 []))
def rc (rf:Rf PG R 136 ps rs) (x:(N2×BA×LL×U1)) (S:LL) (K:Kt R (Int×U1)):Option R:=rf.f x S K
abbrev T3:=Int×U1
abbrev T2:=N2×BA×LL×LL×U1
abbrev T1:=N2×LL×LL×Int×Int×U1
abbrev T0:=N2×LL×BA×LL×Int×Int×U1
def C (k:Nat) (rf:Rf PG R 136 ps rs):List (Ent PG R):=[Qcw.en k,Qcr.en k,Qbq.en k,Qbh.en k,rf.en,Qav.en k,Qdn.en k,Qdu.en k,Qap.en k]
def q4 (k:Nat) (rf:Rf PG R 136 ps rs) (Jnrm:Kt R T1) (Jret:Kt R T3) (x:T1) (S:LL):Option R :=
 objAt S x.1.1 fun ty c30=>ldSl 1 c30 (x.1.2+1) fun l31=>ifB (decide ((l31.length:Int)>100000)) (Jret ((5:Int),()) S) (Jnrm x S)
def Q4 (k:Nat) (rf:Rf PG R 136 ps rs):Pc PG R (su Tryz.f136 511167):=mkEnd T_ok (C k rf) _ c3 c3 (.seq (.own [(3,1)]) (.cond (.seq .auto (.mask mr .auto)) .auto)) ⟨tr,⟨tr,tr⟩,tr⟩ (fun x S K=>q4 k rf (kN K c3) (kR K mr) x S)
def q5 (k:Nat) (rf:Rf PG R 136 ps rs) (Jnrm:Kt R T0) (J1:Kt R T1) (Jret:Kt R T3) (x:(N2×LL×BA×BA×LL×Int×Int×Bool×U1)) (S:LL):Option R :=
 ifB x.2.2.2.2.2.2.2.1 (rc rf (x.1,x.2.2.2.1,x.2.1,()) S fun r22 S=>ifB (r22.1 != 0) (Jret r22 S) (J1 (x.1,x.2.1,x.2.2.2.2.1,x.2.2.2.2.2.1,x.2.2.2.2.2.2.1,()) S)) (Jnrm (x.1,x.2.1,x.2.2.1,x.2.2.2.2.1,x.2.2.2.2.2.1,x.2.2.2.2.2.2.1,()) S)
def Q5 (k:Nat) (rf:Rf PG R 136 ps rs):Pc PG R (su Tryz.f136 445631):=mkEnd T_ok (C k rf) _ c5 c6 (.cond (.seq (.seq .auto (.seq .auto (.cond (.seq .auto (.mask mr .auto)) .auto))) (.mask c3 .auto)) .auto) ⟨⟨⟨tr,tr,⟨tr,tr⟩,tr⟩,tr⟩,tr⟩ (fun x S K=>q5 k rf (kN K c6) (kX K 1 c3) (kR K mr) x S)
def q6 (k:Nat) (rf:Rf PG R 136 ps rs) (Jnrm:Kt R T1) (Jret:Kt R T3) (x:T0) (S:LL):Option R :=
 ifB (Nat.beq x.1.1 x.1.1) (objAt S x.1.1 fun ty c24=>asOwn 5 1 (c24.getD (x.1.2+1) .any) fun l25=>setS (S.set x.1.1 (ty (c24.set (x.1.2+1) (.sl 1 l25)))) fun S=>Qap.fn k (x.2.2.1,()) (S.set x.1.1 .any) fun r26 S'=>hidR x.1.1 (S.getD x.1.1 .any) S' fun S=>app 1 l25 (bytesL r26.1) fun l27=>objAt S x.1.1 fun ty c28=>stO c28 (x.1.2+1) [(.own 5 1 l27)] fun c29=>setS (S.set x.1.1 (ty c29)) fun S=>q4 k rf Jnrm Jret (x.1,x.2.1,x.2.2.2) S) none
def Q6 (k:Nat) (rf:Rf PG R 136 ps rs):Pc PG R (su Tryz.f136 249023):=mkEnd T_ok (C k rf) _ c6 c3 (.seq (.hide 0 [(4,2),(10,2)] [0,1,2,3,5,4,6,7,8,9,10]) (.piece (Q4 k rf).h)) ⟨(hide_an (by kernel_rfl)),(Q4 k rf).ok⟩ (fun x S K=>q6 k rf (kN K c3) (kR K mr) x S)
def b0 (k:Nat) (rf:Rf PG R 136 ps rs) (J0:Kt R (U1)) (Jret:Kt R T3) (rec:Kt R T1) (x:T1) (S:LL):Option R :=
 ifB (decide (x.2.2.2.2.1<x.2.2.2.1)) (idxL x.2.2.1 x.2.2.2.2.1 fun v17=>asStr (leaf v17 0) fun s18=>Qdu.fn k (s18,(bs [10]),()) S fun r19 S=>Qdn.fn k (r19.1,(bs [105,110,99,108,117,100,101,32]),()) S fun r20 S=>ifB r20.2.1 (Qbq.fn k (r20.1,()) S fun r21 S=>q5 k rf (fun o23 S=>q6 k rf (fun o34 S=>rec (o34.1,o34.2.1,o34.2.2.1,o34.2.2.2.1,(IntKind.wrap .i64 (o34.2.2.2.2.1+1)),()) S) Jret o23 S) (fun o36 S=>rec (o36.1,o36.2.1,o36.2.2.1,o36.2.2.2.1,(IntKind.wrap .i64 (o36.2.2.2.2.1+1)),()) S) Jret (x.1,x.2.1,s18,r20.1,x.2.2.1,x.2.2.2.1,x.2.2.2.2.1,r21) S) (q5 k rf (fun o38 S=>q6 k rf (fun o39 S=>rec (o39.1,o39.2.1,o39.2.2.1,o39.2.2.2.1,(IntKind.wrap .i64 (o39.2.2.2.2.1+1)),()) S) Jret o38 S) (fun o41 S=>rec (o41.1,o41.2.1,o41.2.2.1,o41.2.2.2.1,(IntKind.wrap .i64 (o41.2.2.2.2.1+1)),()) S) Jret (x.1,x.2.1,s18,r20.1,x.2.2.1,x.2.2.2.1,x.2.2.2.2.1,false,()) S)) (J0 (()) S)
def L0 (k:Nat) (rf:Rf PG R 136 ps rs):Pc PG R (.loop (su Tryz.f136 1215)):=mkLoop T_ok (C k rf) _ c3 k (.seq .auto (.seq (.cond .auto (.mask z3 .auto)) (.seq (.block (.seq .auto (.seq (.own [(3,1)]) (.seq (.seq .auto (.piece (Q5 k rf).h)) (.piece (Q6 k rf).h))))) .auto))) ⟨tr,⟨tr,tr⟩,⟨tr,tr,⟨tr,(Q5 k rf).ok⟩,(Q6 k rf).ok⟩,tr⟩ (fun K=>b0 k rf (kX K 0 z3) (kR K mr))
def q3 (k:Nat) (rf:Rf PG R 136 ps rs) (Jnrm:Kt R (U1)) (Jret:Kt R T3) (x:T1) (S:LL):Option R :=
 rounds (b0 k rf (fun o43 S=>Jnrm (()) S) Jret) k x S
def Q3 (k:Nat) (rf:Rf PG R 136 ps rs):Pc PG R (su Tryz.f136 447):=mkEnd T_ok (C k rf) _ c3 z3 (.block (.piece (L0 k rf).h)) (L0 k rf).ok (fun x S K=>q3 k rf (kN K z3) (kR K mr) x S)
def q0 (k:Nat) (rf:Rf PG R 136 ps rs) (Jnrm:Kt R T2) (Jret:Kt R T3) (x:T2) (S:LL):Option R :=
 objAt S x.1.1 fun ty c11=>ldInt .i64 c11 (x.1.2+2) fun n12=>ifB (decide (n12>10000)) (Jret ((4:Int),()) S) (Jnrm x S)
def Q0 (k:Nat) (rf:Rf PG R 136 ps rs):Pc PG R (su Tryz.f136 111):=mkEnd T_ok (C k rf) _ c0 c0 (.seq (.own [(3,1)]) (.cond (.seq .auto (.mask mr .auto)) .auto)) ⟨tr,⟨tr,tr⟩,tr⟩ (fun x S K=>q0 k rf (kN K c0) (kR K mr) x S)
def q2 (k:Nat) (rf:Rf PG R 136 ps rs) (Jret:Kt R T3) (x:(N2×LL×LL×U1)) (S:LL):Option R :=
 Qav.fn k x.2.2 S fun r16 S=>q3 k rf (fun o45 S=>Jret ((0:Int),()) S) Jret (x.1,x.2.1,r16.1,(r16.1.length:Int),0,()) S
def Q2 (k:Nat) (rf:Rf PG R 136 ps rs):Pc PG R (su Tryz.f136 127):=mkCut T_ok (C k rf) _ c2 (.seq (.seq .auto (.piece (Q3 k rf).h)) (.seq .auto (.mask mr .auto))) ⟨⟨tr,(Q3 k rf).ok⟩,tr,tr⟩ (fun x S K=>q2 k rf (kR K mr) x S)
def q1 (k:Nat) (rf:Rf PG R 136 ps rs) (Jret:Kt R T3) (x:T2) (S:LL):Option R :=
 Qcr.fn k (x.2.2.1,()) S fun r14 S=>app 16 r14.1 [(.str x.2.1)] fun l15=>q2 k rf Jret (x.1,l15,x.2.2.2) S
def Q1 (k:Nat) (rf:Rf PG R 136 ps rs):Pc PG R (su Tryz.f136 63):=mkCut T_ok (C k rf) _ c0 (.seq .auto (.piece (Q2 k rf).h)) ⟨tr,(Q2 k rf).ok⟩ (fun x S K=>q1 k rf (kR K mr) x S)
def fb (k:Nat) (rf:Rf PG R 136 ps rs) (x:(N2×BA×LL×U1)) (S:LL) (K:Kt R T3):Option R :=
 Qcw.fn k (x.2.2.1,x.2.1,()) S fun r1 S=>ifB r1.1 (K (4,()) S) (ifB (decide ((x.2.2.1.length:Int)>30)) (K (4,()) S) (objAt S x.1.1 fun ty c2=>ldRaw c2 (x.1.2+0) fun v3=>asPtr v3 fun i4 p5=>Qbh.fn k ((i4,p5),x.2.1,()) S fun r6 S=>ifB (r6.2.1 != 0) (K r6.2 S) (objAt S x.1.1 fun ty c7=>ldInt .i64 c7 (x.1.2+2) fun n8=>objAt S x.1.1 fun ty c9=>stO c9 (x.1.2+2) [(.int .i64 (IntKind.wrap .i64 (n8+1)))] fun c10=>setS (S.set x.1.1 (ty c10)) fun S=>q0 k rf (fun o13 S=>q1 k rf K o13 S) K (x.1,x.2.1,x.2.2.1,r6.1,()) S)))
def eb (k:Nat) (rf:Rf PG R 136 ps rs):Ent PG R:=mkFn T_ok Tryz.func136 ps rs (C k rf) (.seq .auto (.seq (.seq .auto (.cond (.seq .auto (.mask mr .auto)) .auto)) (.seq (.own [(3,3),(6,1)]) (.seq (.seq .auto (.cond (.seq .auto (.mask mr .auto)) .auto)) (.seq (.seq (.own [(3,1),(7,1)]) (.piece (Q0 k rf).h)) (.piece (Q1 k rf).h)))))) ⟨tr,⟨tr,⟨tr,tr⟩,tr⟩,tr,⟨tr,⟨tr,tr⟩,tr⟩,⟨tr,(Q0 k rf).ok⟩,(Q1 k rf).ok⟩ (fb k rf)
def lv (k:Nat):Nat→Rf PG R 136 ps rs
 |0=>Rf.nil
 |j+1=>⟨fb k (lv k j),(eb k (lv k j)).ok⟩
def fn (k:Nat) (x:(N2×BA×LL×U1)) (S:LL) (K:Kt R T3):Option R:=(lv k k).f x S K
def en (k:Nat):Ent PG R:=(lv k k).en
end G.Qaq
namespace G.Qbg
abbrev ps:Mk:=sP (sL 1 [])
abbrev rs:Mk:=sL 1 (sI [])
abbrev e0:Mk:=nM 26 []
abbrev m0:Mk:=sP (n9 (sL 1 (sI (sI (nM 13 [])))))
abbrev mr:Mk:=n4 (sL 1 (sI (nM 20 [])))
abbrev T0:=N2×LL×Int×Int×U1
def C (k:Nat):List (Ent PG R):=[Qbc.en k]
def b0 (k:Nat) (J0:Kt R (U1)) (Jret:Kt R (LL×Int×U1)) (rec:Kt R T0) (x:T0) (S:LL):Option R :=
 ifB (decide (x.2.2.2.1<x.2.2.1)) (idxL x.2.1 x.2.2.2.1 fun v1=>asStr (leaf v1 0) fun s2=>Qbc.fn k (x.1,s2,()) S fun r3 S=>ifB r3.2.1 (Jret (r3.1.2.2.1,0,()) S) (rec (x.1,x.2.1,x.2.2.1,(IntKind.wrap .i64 (x.2.2.2.1+1)),()) S)) (J0 (()) S)
def L0 (k:Nat):Pc PG R (.loop (su Tryz.f137 37)):=mkLoop T_ok (C k) _ m0 k (.seq .auto (.seq (.cond .auto (.mask e0 .auto)) (.seq (.block (.seq .auto (.seq (.own [(3,1)]) (.seq .auto (.cond (.seq .auto (.mask mr .auto)) .auto))))) .auto))) ⟨tr,⟨tr,tr⟩,⟨tr,tr,tr,⟨tr,tr⟩,tr⟩,tr⟩ (fun K=>b0 k (kX K 0 e0) (kR K mr))
def fn (k:Nat) (x:(N2×LL×U1)) (S:LL) (K:Kt R (LL×Int×U1)):Option R :=
 rounds (b0 k (fun o4 S=>K ([],2,()) S) K) k (x.1,x.2.1,(x.2.1.length:Int),0,()) S
def en (k:Nat):Ent PG R:=mkFn T_ok Tryz.func137 ps rs (C k) (.seq .auto (.seq (.seq .auto (.block (.piece (L0 k).h))) (.seq .auto (.mask mr .auto)))) ⟨tr,⟨tr,(L0 k).ok⟩,tr,tr⟩ (fn k)
end G.Qbg
namespace G.Qch
abbrev ps:Mk:=sh (.lf (.map)) []
abbrev rs:Mk:=sh (.fn 231 [.ptr]) []
abbrev mr:Mk:=n2 (sh (.fn 231 [.ptr]) (n1 []))
def C (k:Nat):List (Ent PG R):=[]
def fn (k:Nat) (x:(Nat×U1)) (S:LL) (K:Kt R ((N2×U1)×U1)):Option R :=
 newObj S (.obj 106 [(.map x.1)]) fun i1 S=>K (((i1,0),()),()) S
def en (k:Nat):Ent PG R:=mkFn T_ok Tryz.func197 ps rs (C k) (.seq (.own [(0,1)]) (.seq .auto (.mask mr .auto))) ⟨tr,tr,tr⟩ (fn k)
end G.Qch
namespace G.Qbe
abbrev ps:Mk:=sP (sS [])
abbrev rs:Mk:=sO 5 1 []
abbrev e4:Mk:=n8 (sO 5 1 (nM 48 []))
abbrev m2:Mk:=sP (sS (n6 (sO 5 1 (nM 30 (sL 1 (sI (sI (nM 15 []))))))))
abbrev mr:Mk:=n4 (sO 5 1 (nM 52 []))
abbrev T0:=N2×BA×LL×LL×Int×Int×U1
def C (k:Nat):List (Ent PG R):=[⟨40,H.SortedB.h k,H.SortedB.ok k⟩,Qbt.en k,Qbc.en k,Qch.en k]
def G0 (k:Nat):Pc PG R (su Tryz.f138 23):=mkRng T_ok (C k) [(3,3)] _
def G1 (k:Nat):Pc PG R (su Tryz.f138 47):=mkRng T_ok (C k) [(3,3)] _
def b2 (k:Nat) (J4:Kt R (LL×U1)) (rec:Kt R T0) (x:T0) (S:LL):Option R :=
 ifB (decide (x.2.2.2.2.2.1<x.2.2.2.2.1)) (idxL x.2.2.2.1 x.2.2.2.2.2.1 fun v15=>asStr (leaf v15 0) fun s16=>Qbt.fn k (s16,x.2.1,()) S fun r17 S=>ifB r17.1 (Qbc.fn k (x.1,s16,()) S fun r18 S=>catStr s16 (bs [10]) fun s19=>app 1 x.2.2.1 (bytesL s19) fun l20=>rec (x.1,x.2.1,l20,x.2.2.2.1,x.2.2.2.2.1,(IntKind.wrap .i64 (x.2.2.2.2.2.1+1)),()) S) (rec (x.1,x.2.1,x.2.2.1,x.2.2.2.1,x.2.2.2.2.1,(IntKind.wrap .i64 (x.2.2.2.2.2.1+1)),()) S)) (J4 (x.2.2.1,()) S)
def L2 (k:Nat):Pc PG R (.loop (su Tryz.f138 1215)):=mkLoop T_ok (C k) _ m2 k (.seq .auto (.seq (.cond .auto (.mask e4 .auto)) (.seq (.block (.seq .auto (.seq .auto (.cond (.seq .auto (.own [(0,1)])) .auto)))) .auto))) ⟨tr,⟨tr,tr⟩,⟨tr,tr,⟨tr,tr⟩,tr⟩,tr⟩ (fun K=>b2 k (kX K 4 e4))
def fn (k:Nat) (x:(N2×BA×U1)) (S:LL) (K:Kt R (LL×U1)):Option R :=
 Qbc.fn k x S fun r1 S=>newObj S (.mp .str []) fun i2 S=>objAt S x.1.1 fun ty c3=>ldRaw c3 (x.1.2+6) fun v4=>asMap v4 fun i5=>mpAt S i5 .str fun m6=>mpAt S i2 .str fun m7=>ifB (!(Nat.beq i5 i2)) (setS (S.set i2 (.mp .str (putK (fsts m6) m7))) fun S=>objAt S x.1.1 fun ty c8=>ldRaw c8 (x.1.2+7) fun v9=>asMap v9 fun i10=>mpAt S i10 .str fun m11=>mpAt S i2 .str fun m12=>ifB (!(Nat.beq i10 i2)) (setS (S.set i2 (.mp .str (putK (fsts m11) m12))) fun S=>Qch.fn k (i2,()) S fun r13 S=>H.SortedB.fn k r13 S fun r14 S=>rounds (b2 k K) k (x.1,x.2.1,[],r14.1,(r14.1.length:Int),0,()) S) none) none
def en (k:Nat):Ent PG R:=mkFn T_ok Tryz.func138 ps rs (C k) (.seq .auto (.seq .auto (.seq .auto (.seq (.piece (G0 k).h) (.seq (.piece (G1 k).h) (.seq .auto (.seq (.seq .auto (.block (.piece (L2 k).h))) (.seq (.own [(0,1)]) (.mask mr .auto))))))))) ⟨tr,tr,tr,(G0 k).ok,(G1 k).ok,tr,⟨tr,(L2 k).ok⟩,tr,tr⟩ (fn k)
end G.Qbe
namespace G.Qbl
abbrev ps:Mk:=sP (sS [])
abbrev rs:Mk:=sL 1 (sI [])
abbrev e0:Mk:=nM 27 []
abbrev m0:Mk:=n1 (sS (nX (sL 2 (sI (sI (nM 12 []))))))
abbrev mr:Mk:=n4 (sL 1 (sI (nM 21 [])))
abbrev T0:=BA×LL×Int×Int×U1
def C (k:Nat):List (Ent PG R):=[]
def b0 (k:Nat) (J0:Kt R (U1)) (Jret:Kt R (LL×Int×U1)) (rec:Kt R T0) (x:T0) (S:LL):Option R :=
 ifB (decide (x.2.2.2.1<x.2.2.1)) (idxL x.2.1 x.2.2.2.1 fun v3=>mat 2 v3 fun c4=>asStr (c4.getD 0 .any) fun s5=>asStr (c4.getD 1 .any) fun s6=>ifB (strEq s5 x.1) (catStr s6 (bs [10]) fun s7=>ifB (decide (s7.size≤9223372036854775807)) (Jret ((bytesL s7),0,()) S) none) (rec (x.1,x.2.1,x.2.2.1,(IntKind.wrap .i64 (x.2.2.2.1+1)),()) S)) (J0 (()) S)
def L0 (k:Nat):Pc PG R (.loop (su Tryz.f139 37)):=mkLoop T_ok (C k) _ m0 k (.seq .auto (.seq (.cond .auto (.mask e0 .auto)) (.seq (.block (.seq .auto (.seq .auto (.cond (.seq .auto (.mask mr .auto)) .auto)))) .auto))) ⟨tr,⟨tr,tr⟩,⟨tr,tr,⟨tr,tr⟩,tr⟩,tr⟩ (fun K=>b0 k (kX K 0 e0) (kR K mr))
def fn (k:Nat) (x:(N2×BA×U1)) (S:LL) (K:Kt R (LL×Int×U1)):Option R :=
 objAt S x.1.1 fun ty c1=>ldSl 2 c1 ((x.1.2+0)+2) fun l2=>rounds (b0 k (fun o8 S=>K ([],4,()) S) K) k (x.2.1,l2,(l2.length:Int),0,()) S
def en (k:Nat):Ent PG R:=mkFn T_ok Tryz.func139 ps rs (C k) (.seq .auto (.seq (.seq (.own [(4,1)]) (.block (.piece (L0 k).h))) (.seq .auto (.mask mr .auto)))) ⟨tr,⟨tr,(L0 k).ok⟩,tr,tr⟩ (fn k)
end G.Qbl
namespace G.Qaw
abbrev ps:Mk:=sL 1 []
abbrev rs:Mk:=sR []
abbrev c0:Mk:=sL 1 (n2 (sR (sI (nM 21 []))))
abbrev z0:Mk:=sL 1 (n2 (sQ 1 (nM 22 [])))
abbrev e0:Mk:=n3 (sR (nM 22 []))
abbrev m0:Mk:=sL 1 (n2 (sR (nM 22 [])))
abbrev mr:Mk:=n2 (sR (nM 23 []))
def C (k:Nat):List (Ent PG R):=[⟨200,H.BIndexByte.h k,H.BIndexByte.ok k⟩]
def q0 (k:Nat) (Jnrm:Kt R (LL×N3×U1))  (x:(LL×LV×Int×U1)) (S:LL):Option R :=
 slL x.1 (0:Int) x.2.2.1 fun l2=>strOf l2 fun s3=>slL x.1 x.2.2.1 (x.1.length:Int) fun l4=>appO 9 1 16 S x.2.1 [(.str s3)] fun i6 n7 S=>Jnrm (l4,(i6,0,n7),()) S
def Q0 (k:Nat):Pc PG R (su Tryz.f142 931):=mkEnd T_ok (C k) _ c0 z0 (.drawn [(0,1),(6,1)] [0,1,2,3,4,5,7,8,9,6,10,11]) (drawn_an (by kernel_rfl)) (fun x S K=>q0 k (kN K z0) x S)
def b0 (k:Nat) (J0:Kt R (LV×U1)) (rec:Kt R (LL×LV×U1)) (x:(LL×LV×U1)) (S:LL):Option R :=
 ifB (decide ((x.1.length:Int)>0)) (H.BIndexByte.fn k (x.1,10,()) S fun r1 S=>ifB ((IntKind.wrap .i64 (r1.1+1))==0) (q0 k (fun o8 S=>rec (o8.1,(.osl o8.2.1.1 o8.2.1.2.1 1 o8.2.1.2.2),()) S) (x.1,x.2.1,(x.1.length:Int),()) S) (q0 k (fun o9 S=>rec (o9.1,(.osl o9.2.1.1 o9.2.1.2.1 1 o9.2.1.2.2),()) S) (x.1,x.2.1,(IntKind.wrap .i64 (r1.1+1)),()) S)) (J0 x.2 S)
def L0 (k:Nat):Pc PG R (.loop (su Tryz.f142 35)):=mkLoop T_ok (C k) _ m0 k (.seq (.seq .auto (.cond .auto (.mask e0 .auto))) (.block (.seq .auto (.seq (.seq .auto (.cond .auto .auto)) (.piece (Q0 k).h))))) ⟨⟨tr,tr,tr⟩,tr,⟨tr,tr,tr⟩,(Q0 k).ok⟩ (fun K=>b0 k (kX K 0 e0))
def fn (k:Nat) (x:(LL×U1)) (S:LL) (K:Kt R (LV×U1)):Option R :=
 rounds (b0 k K) k (x.1,.nilsl,()) S
def en (k:Nat):Ent PG R:=mkFn T_ok Tryz.func142 ps rs (C k) (.seq .auto (.seq .auto (.seq (.block (.piece (L0 k).h)) (.seq (.own [(0,1)]) (.mask mr .auto))))) ⟨tr,tr,(L0 k).ok,tr,tr⟩ (fn k)
end G.Qaw
namespace G.Qaz
abbrev ps:Mk:=sL 1 []
abbrev rs:Mk:=sO 5 1 []
abbrev e0:Mk:=n3 (sR (nM 35 []))
abbrev e2:Mk:=n5 (sO 5 1 (nM 33 []))
abbrev m0:Mk:=n3 (sR (n7 (sI (sI (nM 26 [])))))
abbrev m1:Mk:=n5 (sO 5 1 (nM 21 (sR (sI (sI (n9 []))))))
abbrev mr:Mk:=n2 (sO 5 1 (nM 36 []))
abbrev T2:=LL×U1
abbrev T1:=LV×Int×Int×U1
abbrev T0:=LL×LV×Int×Int×U1
def C (k:Nat):List (Ent PG R):=[⟨69,H.SortStr.h k,H.SortStr.ok k⟩,Qaw.en k,Qdu.en k,⟨198,H.CompactStr.h k,H.CompactStr.ok k⟩]
def b1 (k:Nat) (J2:Kt R T2) (rec:Kt R T0) (x:T0) (S:LL):Option R :=
 ifB (decide (x.2.2.2.1<x.2.2.1)) (oslOr x.2.1 (fun i23 p24 z26 n25=>ifB (Nat.beq z26 1) (idxN n25 x.2.2.2.1 fun v22=>objAt S i23 fun ty c27=>ldStr c27 (p24+v22*z26) fun s28=>catStr s28 (bs [10]) fun s29=>app 1 x.1 (bytesL s29) fun l30=>rec (l30,x.2.1,x.2.2.1,(IntKind.wrap .i64 (x.2.2.2.1+1)),()) S) none) none) (J2 (x.1,()) S)
def L1 (k:Nat):Pc PG R (.loop (su Tryz.f140 607)):=mkLoop T_ok (C k) _ m1 k (.seq .auto (.seq (.cond .auto (.mask e2 .auto)) (.seq (.block (.seq (.own [(0,1),(1,1)]) (.own [(0,1)]))) .auto))) ⟨tr,⟨tr,tr⟩,⟨tr,tr⟩,tr⟩ (fun K=>b1 k (kX K 2 e2))
def b0 (k:Nat) (J0:Kt R (LV×U1)) (rec:Kt R T1) (x:T1) (S:LL):Option R :=
 ifB (decide (x.2.2.1<x.2.1)) (oslOr (dup x.1) (fun i4 p5 z7 n6=>ifB (Nat.beq z7 1) (idxN n6 x.2.2.1 fun v3=>objAt S i4 fun ty c8=>ldStr c8 (p5+v3*z7) fun s9=>Qdu.fn k (s9,(bs [10]),()) S fun r10 S=>oslOr (dup x.1) (fun i12 p13 z15 n14=>ifB (Nat.beq z15 1) (idxN n14 x.2.2.1 fun v11=>objAt S i12 fun ty c16=>stO c16 (p13+v11*z15) [(.str r10.1)] fun c17=>setS (S.set i12 (ty c17)) fun S=>rec (x.1,x.2.1,(IntKind.wrap .i64 (x.2.2.1+1)),()) S) none) none) none) none) (J0 (x.1,()) S)
def L0 (k:Nat):Pc PG R (.loop (su Tryz.f140 75)):=mkLoop T_ok (C k) _ m0 k (.seq .auto (.seq (.cond .auto (.mask e0 .auto)) (.seq (.block (.seq .auto (.own [(0,2),(2,2),(4,1),(5,1),(7,1),(8,1)]))) .auto))) ⟨tr,⟨tr,tr⟩,⟨tr,tr⟩,tr⟩ (fun K=>b0 k (kX K 0 e0))
def fn0 (k:Nat) (x:T2) (S:LL) (K:Kt R T2):Option R :=
 Qaw.fn k x S fun r1 S=>lenO (dup r1.1) fun n2=>rounds (b0 k (fun o18 S=>H.SortStr.fn k ((dup o18.1),()) S fun r19 S=>H.CompactStr.fn k ((dup o18.1),()) S fun r20 S=>lenO r20.1 fun n21=>rounds (b1 k K) k ([],r20.1,(n21:Int),0,()) S)) k (r1.1,(n2:Int),0,()) S
def en0 (k:Nat):Ent PG R:=mkFn T_ok Tryz.func140 ps rs (C k) (.seq .auto (.seq .auto (.seq (.seq (.own [(0,2),(1,1)]) (.block (.piece (L0 k).h))) (.seq (.own [(0,2)]) (.seq .auto (.seq (.seq (.own [(0,2),(2,1)]) (.block (.piece (L1 k).h))) (.seq (.own [(0,1)]) (.mask mr .auto)))))))) ⟨tr,tr,⟨tr,(L0 k).ok⟩,tr,tr,⟨tr,(L1 k).ok⟩,tr,tr⟩ (fn0 k)
def fn (k:Nat) (x:T2) (S:LL) (K:Kt R T2):Option R:=popK rs 6 S (fn0 k x S fun r S=>some (resE rs r,S)) K
def en (k:Nat):Ent PG R:=mkPop (rs:=rs) (en0 k).ok
end G.Qaz
namespace G.Qby
abbrev ps:Mk:=sL 1 (sL 1 (sL 1 (sI [])))
abbrev rs:Mk:=sL 1 []
abbrev c0:Mk:=sL 1 (sL 1 (sL 1 (sI (n6 (sQ 1 (nM 121 []))))))
abbrev c1:Mk:=sL 1 (sL 1 (sL 1 (sI (n6 (sQ 1 (sI (nM 120 [])))))))
abbrev c10:Mk:=sL 1 (sL 1 (sL 1 (sI (nM 128 []))))
abbrev c11:Mk:=sL 1 (sL 1 (sL 1 (n7 (sQ 1 (sI (sI (nM 35 (sI (sI (sB (nM 81 [])))))))))))
abbrev c12:Mk:=sL 1 (sL 1 (sL 1 (n7 (sQ 1 (sI (sI (nM 35 (sI (sI (nM 82 []))))))))))
abbrev c13:Mk:=sL 1 (sL 1 (sL 1 (n7 (sQ 1 (sI (sI (sI (nM 34 (sI (sI (nM 82 [])))))))))))
abbrev c14:Mk:=sL 1 (sL 1 (sL 1 (n7 (sQ 1 (sI (n1 (sI (nM 34 (sI (sI (nM 82 [])))))))))))
abbrev c15:Mk:=sL 1 (n1 (sL 1 (n7 (sQ 1 (sI (sI (nM 75 (sI (sI (sB (nM 41 [])))))))))))
abbrev c16:Mk:=sL 1 (n1 (sL 1 (n7 (sQ 1 (sI (sI (nM 75 (sI (sI (nM 42 []))))))))))
abbrev c17:Mk:=sL 1 (sL 1 (sL 1 (sI (n5 (sI (nM 122 []))))))
abbrev c18:Mk:=sL 1 (sL 1 (sL 1 (sI (n5 (sI (nM 13 (sB (nM 108 []))))))))
abbrev c2:Mk:=sL 1 (sL 1 (sL 1 (sI (n6 (sQ 1 (sI (sI (nM 119 []))))))))
abbrev c3:Mk:=sL 1 (sL 1 (sL 1 (sI (n6 (sQ 1 (sI (sI (nM 34 (sB (nM 84 []))))))))))
abbrev c6:Mk:=sL 1 (n1 (sL 1 (sI (n6 (sQ 1 (sI (sI (nM 119 []))))))))
abbrev c8:Mk:=sL 1 (n9 (sQ 1 (sI (sI (nM 119 [])))))
abbrev c9:Mk:=nX (sQ 1 (sI (nM 120 [])))
abbrev mr:Mk:=n8 (sL 1 (nM 123 []))
abbrev T5:=LL×U1
abbrev T4:=LL×LL×LL×Int×U1
abbrev T3:=LL×N3×Int×Int×U1
abbrev T2:=LL×LL×LL×Int×Int×U1
abbrev T1:=LL×LL×N3×Int×Int×Int×Int×U1
abbrev T0:=LL×LL×LL×N3×Int×Int×Int×Int×U1
def C (k:Nat):List (Ent PG R):=[⟨234,H.BCount.h k,H.BCount.ok k⟩,⟨235,H.BIndex.h k,H.BIndex.ok k⟩]
def q5 (k:Nat) (Jnrm:Kt R T0)  (x:T0) (S:LL):Option R :=
 Jnrm (x.1,x.2.1,x.2.2.1,x.2.2.2.1,x.2.2.2.2.1,(IntKind.wrap .i64 (x.2.2.2.2.2.1+(x.2.1.length:Int))),x.2.2.2.2.2.2) S
def Q5 (k:Nat):Pc PG R (su Tryz.f201 3984127):=mkEnd T_ok (C k) _ c14 c12 (.auto) tr (fun x S K=>q5 k (kN K c12) x S)
def q14 (k:Nat) (Jnrm:Kt R T0)  (x:T0) (S:LL):Option R :=
 ifB (Nat.beq 1 1&&Nat.blt 0 1&&decide ((0:Int)≤x.2.2.2.2.1∧x.2.2.2.2.1≤(x.2.2.2.1.2.2:Int)∧(x.2.2.2.1.2.2:Int)≤x.2.2.2.1.2.2)) (ifB (Nat.beq 1 1&&Nat.beq 1 1) (ifB (Nat.ble x.2.2.1.length (((x.2.2.2.1.2.2:Int)).toNat-(x.2.2.2.2.1).toNat)) (objAt S x.2.2.2.1.1 fun ty c11=>stO c11 (x.2.2.2.1.2.1+(x.2.2.2.2.1).toNat*1) (flatC 1 x.2.2.1) fun c12=>setS (S.set x.2.2.2.1.1 (ty c12)) fun S=>q5 k Jnrm (x.1,x.2.1,x.2.2.1,x.2.2.2.1,(IntKind.wrap .i64 (x.2.2.2.2.1+(x.2.2.1.length:Int))),x.2.2.2.2.2) S) none) none) none
def Q14 (k:Nat):Pc PG R (su Tryz.f201 1886975):=mkEnd T_ok (C k) _ c14 c12 (.seq (.own [(3,1),(5,1)]) (.piece (Q5 k).h)) ⟨tr,(Q5 k).ok⟩ (fun x S K=>q14 k (kN K c12) x S)
def q13 (k:Nat) (Jnrm:Kt R T0)  (x:(LL×LL×LL×N3×Int×Int×Int×Int×Int×U1)) (S:LL):Option R :=
 ifB (Nat.beq 1 1&&Nat.blt 0 1&&decide ((0:Int)≤x.2.2.2.2.1∧x.2.2.2.2.1≤(x.2.2.2.1.2.2:Int)∧(x.2.2.2.1.2.2:Int)≤x.2.2.2.1.2.2)) (slL x.1 x.2.2.2.2.2.1 x.2.2.2.2.2.2.1 fun l8=>ifB (Nat.beq 1 1&&Nat.beq 1 1) (ifB (Nat.ble l8.length (((x.2.2.2.1.2.2:Int)).toNat-(x.2.2.2.2.1).toNat)) (objAt S x.2.2.2.1.1 fun ty c9=>stO c9 (x.2.2.2.1.2.1+(x.2.2.2.2.1).toNat*1) (flatC 1 l8) fun c10=>setS (S.set x.2.2.2.1.1 (ty c10)) fun S=>q14 k Jnrm (x.1,x.2.1,x.2.2.1,x.2.2.2.1,(IntKind.wrap .i64 (x.2.2.2.2.1+(l8.length:Int))),x.2.2.2.2.2.2) S) none) none) none
def Q13 (k:Nat):Pc PG R (su Tryz.f201 838399):=mkEnd T_ok (C k) _ c13 c12 (.seq (.drawn [(3,1),(8,1)] [0,1,2,3,4,5,6,7,8,9,10]) (.piece (Q14 k).h)) ⟨(drawn_an (by kernel_rfl)),(Q14 k).ok⟩ (fun x S K=>q13 k (kN K c12) x S)
def q16 (k:Nat)  (x:T1) (S:LL):Option R :=
 slL x.1 x.2.2.2.2.1 (x.1.length:Int) fun l23=>none
def Q16 (k:Nat):Pc PG R (su Tryz.f201 237311):=mkCut T_ok (C k) _ c16 (.seq (.block (.seq (.own [(4,1)]) (.seq .auto (.seq .auto (.seq .auto .auto))))) .auto) ⟨⟨tr,tr,tr,tr,tr⟩,tr⟩ (fun x S K=>q16 k  x S)
def q12 (k:Nat) (Jnrm:Kt R T0)  (x:T0) (S:LL):Option R :=
 slL x.1 x.2.2.2.2.2.1 (x.1.length:Int) fun l6=>H.BIndex.fn k (l6,x.2.1,()) S fun r7 S=>q13 k (fun o15 S=>Jnrm (o15.1,o15.2.1,o15.2.2.1,o15.2.2.2.1,o15.2.2.2.2.1,o15.2.2.2.2.2.1,o15.2.2.2.2.2.2.1,(IntKind.wrap .i64 (o15.2.2.2.2.2.2.2.1+1)),()) S) (x.1,x.2.1,x.2.2.1,x.2.2.2.1,x.2.2.2.2.1,x.2.2.2.2.2.1,(IntKind.wrap .i64 (x.2.2.2.2.2.1+r7.1)),x.2.2.2.2.2.2) S
def Q12 (k:Nat):Pc PG R (su Tryz.f201 117503):=mkEnd T_ok (C k) _ c12 c12 (.seq (.block (.seq .auto (.piece (Q13 k).h))) .auto) ⟨⟨tr,(Q13 k).ok⟩,tr⟩ (fun x S K=>q12 k (kN K c12) x S)
def q15 (k:Nat) (J2:Kt R T3) (x:(LL×LL×N3×Int×Int×Int×Int×Bool×U1)) (S:LL):Option R :=
 ifB x.2.2.2.2.2.2.2.1 (q16 k  (x.1,x.2.1,x.2.2.1,x.2.2.2.1,x.2.2.2.2.1,x.2.2.2.2.2.1,x.2.2.2.2.2.2.1,()) S) (J2 (x.1,x.2.2.1,x.2.2.2.1,x.2.2.2.2.1,()) S)
def Q15 (k:Nat):Pc PG R (su Tryz.f201 106239):=mkCut T_ok (C k) _ c15 (.seq (.cond .auto (.mask c8 .auto)) (.piece (Q16 k).h)) ⟨⟨tr,tr⟩,(Q16 k).ok⟩ (fun x S K=>q15 k (kX K 2 c8) x S)
def q11 (k:Nat) (Jnrm:Kt R T0) (J0:Kt R T3) (x:(LL×LL×LL×N3×Int×Int×Int×Int×Bool×U1)) (S:LL):Option R :=
 ifB x.2.2.2.2.2.2.2.2.1 (q12 k Jnrm (x.1,x.2.1,x.2.2.1,x.2.2.2.1,x.2.2.2.2.1,x.2.2.2.2.2.1,x.2.2.2.2.2.2.1,x.2.2.2.2.2.2.2.1,()) S) (J0 (x.1,x.2.2.2.1,x.2.2.2.2.1,x.2.2.2.2.2.1,()) S)
def Q11 (k:Nat):Pc PG R (su Tryz.f201 51967):=mkEnd T_ok (C k) _ c11 c12 (.seq (.cond .auto (.mask c8 .auto)) (.piece (Q12 k).h)) ⟨⟨tr,tr⟩,(Q12 k).ok⟩ (fun x S K=>q11 k (kN K c12) (kX K 0 c8) x S)
def b1 (k:Nat) (J2:Kt R T3) (rec:Kt R T1) (x:T1) (S:LL):Option R :=
 q15 k J2 (x.1,x.2.1,x.2.2.1,x.2.2.2.1,x.2.2.2.2.1,x.2.2.2.2.2.1,x.2.2.2.2.2.2.1,(decide (x.2.2.2.2.2.2.1<x.2.2.2.2.2.1)),()) S
def L1 (k:Nat):Pc PG R (.loop (su Tryz.f201 40703)):=mkLoop T_ok (C k) _ c16 k (.seq .auto (.piece (Q15 k).h)) ⟨tr,(Q15 k).ok⟩ (fun K=>b1 k (kX K 2 c8))
def b0 (k:Nat) (J0:Kt R T3) (rec:Kt R T0) (x:T0) (S:LL):Option R :=
 q11 k rec J0 (x.1,x.2.1,x.2.2.1,x.2.2.2.1,x.2.2.2.2.1,x.2.2.2.2.2.1,x.2.2.2.2.2.2.1,x.2.2.2.2.2.2.2.1,(decide (x.2.2.2.2.2.2.2.1<x.2.2.2.2.2.2.1)),()) S
def L0 (k:Nat):Pc PG R (.loop (su Tryz.f201 19199)):=mkLoop T_ok (C k) _ c12 k (.seq .auto (.piece (Q11 k).h)) ⟨tr,(Q11 k).ok⟩ (fun K=>b0 k (kX K 0 c8))
def q7 (k:Nat) (Jnrm:Kt R T3)  (x:T1) (S:LL):Option R :=
 rounds (b1 k Jnrm) k x S
def Q7 (k:Nat):Pc PG R (su Tryz.f201 16127):=mkEnd T_ok (C k) _ c16 c8 (.block (.piece (L1 k).h)) (L1 k).ok (fun x S K=>q7 k (kN K c8) x S)
def q4 (k:Nat) (Jnrm:Kt R T3)  (x:T0) (S:LL):Option R :=
 rounds (b0 k Jnrm) k x S
def Q4 (k:Nat):Pc PG R (su Tryz.f201 6911):=mkEnd T_ok (C k) _ c12 c8 (.block (.piece (L0 k).h)) (L0 k).ok (fun x S K=>q4 k (kN K c8) x S)
def q6 (k:Nat) (Jnrm:Kt R T3)  (x:(LL×LL×Int×N3×Int×Int×U1)) (S:LL):Option R :=
 q7 k Jnrm (x.1,x.2.1,x.2.2.2.1,x.2.2.2.2.1,x.2.2.2.2.2.1,(IntKind.wrap .i64 (x.2.2.1-1)),0,()) S
def Q6 (k:Nat):Pc PG R (su Tryz.f201 7935):=mkEnd T_ok (C k) _ c6 c8 (.seq .auto (.piece (Q7 k).h)) ⟨tr,(Q7 k).ok⟩ (fun x S K=>q6 k (kN K c8) x S)
def q3 (k:Nat) (Jnrm:Kt R T3)  (x:(LL×LL×LL×Int×N3×Int×Int×Bool×U1)) (S:LL):Option R :=
 ifB x.2.2.2.2.2.2.2.1 (q4 k Jnrm (x.1,x.2.1,x.2.2.1,x.2.2.2.2.1,x.2.2.2.2.2.1,x.2.2.2.2.2.2.1,x.2.2.2.1,0,()) S) (ifB (Nat.beq 1 1&&Nat.blt 0 1&&decide ((0:Int)≤x.2.2.2.2.2.1∧x.2.2.2.2.2.1≤(x.2.2.2.2.1.2.2:Int)∧(x.2.2.2.2.1.2.2:Int)≤x.2.2.2.2.1.2.2)) (ifB (Nat.beq 1 1&&Nat.beq 1 1) (ifB (Nat.ble x.2.2.1.length (((x.2.2.2.2.1.2.2:Int)).toNat-(x.2.2.2.2.2.1).toNat)) (objAt S x.2.2.2.2.1.1 fun ty c21=>stO c21 (x.2.2.2.2.1.2.1+(x.2.2.2.2.2.1).toNat*1) (flatC 1 x.2.2.1) fun c22=>setS (S.set x.2.2.2.2.1.1 (ty c22)) fun S=>q6 k Jnrm (x.1,x.2.2.1,x.2.2.2.1,x.2.2.2.2.1,(IntKind.wrap .i64 (x.2.2.2.2.2.1+(x.2.2.1.length:Int))),x.2.2.2.2.2.2.1,()) S) none) none) none)
def Q3 (k:Nat):Pc PG R (su Tryz.f201 1791):=mkEnd T_ok (C k) _ c3 c8 (.cond (.seq .auto (.piece (Q4 k).h)) (.seq (.own [(3,1),(5,1)]) (.piece (Q6 k).h))) ⟨⟨tr,(Q4 k).ok⟩,tr,(Q6 k).ok⟩ (fun x S K=>q3 k (kN K c8) x S)
def q9 (k:Nat) (Jret:Kt R T5) (x:(N3×Int×U1)) (S:LL):Option R :=
 ifB (Nat.beq 1 1&&Nat.blt 0 1&&decide ((0:Int)≤0∧(0:Int)≤x.2.1∧x.2.1≤x.1.2.2)) (objAt S x.1.1 fun ty c32=>ifB (Nat.beq (x.1.2.1+((0:Int)).toNat*1) 0&&Nat.beq (((x.2.1).toNat-((0:Int)).toNat)*1) c32.length&&Nat.blt 0 1&&Nat.ble ((x.2.1).toNat-((0:Int)).toNat) 9223372036854775807) (setS (S.set x.1.1 .any) fun S=>Jret ((chunks 1 ((x.2.1).toNat-((0:Int)).toNat) c32),()) S) none) none
def Q9 (k:Nat):Pc PG R (su Tryz.f201 2047):=mkCut T_ok (C k) _ c9 (.seq (.own [(2,1)]) (.frz 8 (.mask mr .auto))) ⟨tr,tr⟩ (fun x S K=>q9 k (kR K mr) x S)
def q8 (k:Nat) (Jret:Kt R T5) (x:T3) (S:LL):Option R :=
 ifB (Nat.beq 1 1&&Nat.blt 0 1&&decide ((0:Int)≤x.2.2.1∧x.2.2.1≤(x.2.1.2.2:Int)∧(x.2.1.2.2:Int)≤x.2.1.2.2)) (slL x.1 x.2.2.2.1 (x.1.length:Int) fun l29=>ifB (Nat.beq 1 1&&Nat.beq 1 1) (ifB (Nat.ble l29.length (((x.2.1.2.2:Int)).toNat-(x.2.2.1).toNat)) (objAt S x.2.1.1 fun ty c30=>stO c30 (x.2.1.2.1+(x.2.2.1).toNat*1) (flatC 1 l29) fun c31=>setS (S.set x.2.1.1 (ty c31)) fun S=>q9 k Jret (x.2.1,(IntKind.wrap .i64 (x.2.2.1+(l29.length:Int))),()) S) none) none) none
def Q8 (k:Nat):Pc PG R (su Tryz.f201 1023):=mkCut T_ok (C k) _ c8 (.seq (.drawn [(3,1),(7,1)] [0,1,2,3,4,5,6,7,8,9]) (.piece (Q9 k).h)) ⟨(drawn_an (by kernel_rfl)),(Q9 k).ok⟩ (fun x S K=>q8 k (kR K mr) x S)
def q2 (k:Nat) (Jret:Kt R T5) (x:(LL×LL×LL×Int×N3×Int×Int×U1)) (S:LL):Option R :=
 q3 k (fun o28 S=>q8 k Jret o28 S) (x.1,x.2.1,x.2.2.1,x.2.2.2.1,x.2.2.2.2.1,x.2.2.2.2.2.1,x.2.2.2.2.2.2.1,(decide ((x.2.1.length:Int)>0)),()) S
def Q2 (k:Nat):Pc PG R (su Tryz.f201 511):=mkCut T_ok (C k) _ c2 (.seq (.seq .auto (.piece (Q3 k).h)) (.piece (Q8 k).h)) ⟨⟨tr,(Q3 k).ok⟩,(Q8 k).ok⟩ (fun x S K=>q2 k (kR K mr) x S)
def q1 (k:Nat) (Jret:Kt R T5) (x:(LL×LL×LL×Int×N3×Int×U1)) (S:LL):Option R :=
 q2 k Jret (x.1,x.2.1,x.2.2.1,x.2.2.2.1,x.2.2.2.2.1,x.2.2.2.2.2.1,0,()) S
def Q1 (k:Nat):Pc PG R (su Tryz.f201 255):=mkCut T_ok (C k) _ c1 (.seq .auto (.piece (Q2 k).h)) ⟨tr,(Q2 k).ok⟩ (fun x S K=>q1 k (kR K mr) x S)
def q0 (k:Nat) (Jret:Kt R T5) (x:(LL×LL×LL×Int×N3×U1)) (S:LL):Option R :=
 q1 k Jret (x.1,x.2.1,x.2.2.1,x.2.2.2.1,x.2.2.2.2.1,0,()) S
def Q0 (k:Nat):Pc PG R (su Tryz.f201 127):=mkCut T_ok (C k) _ c0 (.seq .auto (.piece (Q1 k).h)) ⟨tr,(Q1 k).ok⟩ (fun x S K=>q0 k (kR K mr) x S)
def q10 (k:Nat) (Jret:Kt R T5) (x:T4) (S:LL):Option R :=
 ifB (decide ((IntKind.wrap .i64 ((x.1.length:Int)+(IntKind.wrap .i64 (x.2.2.2.1*(IntKind.wrap .i64 ((x.2.2.1.length:Int)-(x.2.1.length:Int)))))))=(IntKind.wrap .i64 ((x.1.length:Int)+(IntKind.wrap .i64 (x.2.2.2.1*(IntKind.wrap .i64 ((x.2.2.1.length:Int)-(x.2.1.length:Int))))))))) (mkN (IntKind.wrap .i64 ((x.1.length:Int)+(IntKind.wrap .i64 (x.2.2.2.1*(IntKind.wrap .i64 ((x.2.2.1.length:Int)-(x.2.1.length:Int))))))) 1 fun m4=>newObj S (.obj 5 (zeros m4 [(.int .u8 (0:Int))])) fun i5 S=>q0 k Jret (x.1,x.2.1,x.2.2.1,x.2.2.2.1,(i5,0,m4),()) S) none
def Q10 (k:Nat):Pc PG R (su Tryz.f201 63):=mkCut T_ok (C k) _ c10 (.seq .auto (.piece (Q0 k).h)) ⟨tr,(Q0 k).ok⟩ (fun x S K=>q10 k (kR K mr) x S)
def q18 (k:Nat) (Jnrm:Kt R T2) (Jret:Kt R T5) (x:(LL×LL×LL×Int×Int×Bool×U1)) (S:LL):Option R :=
 ifB x.2.2.2.2.2.1 (app 1 [] x.1 fun l2=>Jret (l2,()) S) (Jnrm (x.1,x.2.1,x.2.2.1,x.2.2.2.1,x.2.2.2.2.1,()) S)
def Q18 (k:Nat):Pc PG R (su Tryz.f201 55):=mkEnd T_ok (C k) _ c18 c17 (.cond (.seq .auto (.mask mr .auto)) .auto) ⟨⟨tr,tr⟩,tr⟩ (fun x S K=>q18 k (kN K c17) (kR K mr) x S)
def q19 (k:Nat) (Jret:Kt R T5) (x:T2) (S:LL):Option R :=
 ifB (decide (x.2.2.2.1<0)) (q10 k Jret (x.1,x.2.1,x.2.2.1,x.2.2.2.2) S) (ifB (decide (x.2.2.2.2.1<x.2.2.2.1)) (q10 k Jret (x.1,x.2.1,x.2.2.1,x.2.2.2.2) S) (q10 k Jret (x.1,x.2.1,x.2.2.1,x.2.2.2.1,()) S))
def Q19 (k:Nat):Pc PG R (su Tryz.f201 31):=mkCut T_ok (C k) _ c17 (.seq (.seq .auto (.cond .auto .auto)) (.piece (Q10 k).h)) ⟨⟨tr,tr,tr⟩,(Q10 k).ok⟩ (fun x S K=>q19 k (kR K mr) x S)
def q17 (k:Nat) (Jret:Kt R T5) (x:T2) (S:LL):Option R :=
 q18 k (fun o3 S=>q19 k Jret o3 S) Jret (x.1,x.2.1,x.2.2.1,x.2.2.2.1,x.2.2.2.2.1,(x.2.2.2.2.1==0),()) S
def Q17 (k:Nat):Pc PG R (su Tryz.f201 15):=mkCut T_ok (C k) _ c17 (.seq (.seq .auto (.piece (Q18 k).h)) (.piece (Q19 k).h)) ⟨⟨tr,(Q18 k).ok⟩,(Q19 k).ok⟩ (fun x S K=>q17 k (kR K mr) x S)
def fn0 (k:Nat) (x:T4) (S:LL) (K:Kt R T5):Option R :=
 ifB (x.2.2.2.1 != 0) (H.BCount.fn k (x.1,x.2.1,()) S fun r1 S=>q17 k K (x.1,x.2.1,x.2.2.1,x.2.2.2.1,r1) S) (q17 k K (x.1,x.2.1,x.2.2.1,x.2.2.2.1,0,()) S)
def en0 (k:Nat):Ent PG R:=mkFn T_ok Tryz.func201 ps rs (C k) (.seq .auto (.seq .auto (.seq (.seq .auto (.cond .auto .auto)) (.piece (Q17 k).h)))) ⟨tr,tr,⟨tr,tr,tr⟩,(Q17 k).ok⟩ (fn0 k)
def fn (k:Nat) (x:T4) (S:LL) (K:Kt R T5):Option R:=popK rs 6 S (fn0 k x S fun r S=>some (resE rs r,S)) K
def en (k:Nat):Ent PG R:=mkPop (rs:=rs) (en0 k).ok
end G.Qby
namespace G.Qbz
abbrev ps:Mk:=sL 1 (sL 1 (sL 1 []))
abbrev rs:Mk:=sL 1 []
abbrev mr:Mk:=n6 (sL 1 (n4 []))
def C (k:Nat):List (Ent PG R):=[Qby.en k]
def fn (k:Nat) (x:(LL×LL×LL×U1)) (S:LL) (K:Kt R (LL×U1)):Option R :=
 Qby.fn k (x.1,x.2.1,x.2.2.1,(-1:Int),()) S K
def en (k:Nat):Ent PG R:=mkFn T_ok Tryz.func143 ps rs (C k) (.seq .auto (.seq .auto (.mask mr .auto))) ⟨tr,tr,tr⟩ (fn k)
end G.Qbz
namespace G.Qbf
abbrev ps:Mk:=sP (sL 1 [])
abbrev rs:Mk:=sL 1 (sI [])
abbrev c0:Mk:=n1 (sL 1 (n6 (sL 1 (sI (nM 120 [])))))
abbrev c1:Mk:=n1 (sL 1 (n6 (sL 1 (sI (nM 65 (sB (nM 54 [])))))))
abbrev c10:Mk:=n8 (sL 1 (nM 114 (sB (n6 []))))
abbrev c11:Mk:=n8 (sL 1 (nM 121 []))
abbrev c2:Mk:=n1 (sL 1 (n6 (sL 1 (nM 121 []))))
abbrev c3:Mk:=n1 (sL 1 (n6 (sL 1 (nM 70 (sS (nM 50 []))))))
abbrev c4:Mk:=n1 (sL 1 (n6 (sL 1 (nM 70 (sS (sB (nM 49 [])))))))
abbrev c5:Mk:=n1 (sL 1 (n6 (sL 1 (nM 70 (sS (n4 (sB (nM 45 []))))))))
abbrev c6:Mk:=n1 (sL 1 (n6 (sL 1 (nM 70 (sS (nM 12 (sB (nM 37 []))))))))
abbrev c7:Mk:=n8 (sL 1 (n1 (sI (nM 119 []))))
abbrev c8:Mk:=nX (sI (n1 (sO 9 1 (nM 117 []))))
abbrev c9:Mk:=n1 (sL 1 (n6 (sL 1 (nM 70 (sS (nM 31 (sB (nM 18 []))))))))
abbrev mr:Mk:=n4 (sL 1 (sI (nM 124 [])))
abbrev T2:=LL×U1
abbrev T1:=LL×Int×U1
abbrev T0:=LL×LL×BA×Bool×U1
def C (k:Nat):List (Ent PG R):=[Qbo.en k,Qbh.en k,⟨94,H.Atoi.h k,H.Atoi.ok k⟩,Qds.en k,Qbd.en k,Qaq.en k,Qbg.en k,Qbe.en k,Qbl.en k,Qaz.en k,⟨141,H.Itoa.h k,H.Itoa.ok k⟩,Qav.en k,Qbz.en k]
def q10 (k:Nat) (Jnrm:Kt R T2) (Jret:Kt R T1) (x:(LL×Bool×U1)) (S:LL):Option R :=
 ifB x.2.1 (Qbo.fn k (x.1,()) S fun r42 S=>catStr r42.1 (bs [10]) fun s43=>ifB (decide (s43.size≤9223372036854775807)) (Jret ((bytesL s43),0,()) S) none) (Jnrm (x.1,()) S)
def Q10 (k:Nat):Pc PG R (su Tryz.f95 130991):=mkEnd T_ok (C k) _ c10 c11 (.cond (.seq .auto (.mask mr .auto)) .auto) ⟨⟨tr,tr⟩,tr⟩ (fun x S K=>q10 k (kN K c11) (kR K mr) x S)
def q8 (k:Nat) (Jret:Kt R T1) (x:(Int×LL×U1)) (S:LL):Option R :=
 slL x.2.1 (0:Int) (minI x.1 (x.2.1.length:Int)) fun l33=>Qds.fn k (l33,(bs []),()) S fun r34 S=>ifB (decide (r34.1.size≤9223372036854775807)) (Jret ((bytesL r34.1),0,()) S) none
def Q8 (k:Nat):Pc PG R (su Tryz.f95 61359):=mkCut T_ok (C k) _ c8 (.seq .auto (.mask mr .auto)) ⟨tr,tr⟩ (fun x S K=>q8 k (kR K mr) x S)
def q7 (k:Nat) (Jret:Kt R T1) (x:T1) (S:LL):Option R :=
 Qav.fn k (x.1,()) S fun r32 S=>q8 k Jret (x.2.1,r32) S
def Q7 (k:Nat):Pc PG R (su Tryz.f95 28591):=mkCut T_ok (C k) _ c7 (.seq .auto (.piece (Q8 k).h)) ⟨tr,(Q8 k).ok⟩ (fun x S K=>q7 k (kR K mr) x S)
def q9 (k:Nat) (Jnrm:Kt R T2) (Jret:Kt R T1) (x:T0) (S:LL):Option R :=
 ifB x.2.2.2.1 (idxL x.1 (2:Int) fun v37=>asStr (leaf v37 0) fun s38=>ifB (decide (s38.size≤9223372036854775807)) (idxL x.1 (3:Int) fun v39=>asStr (leaf v39 0) fun s40=>ifB (decide (s40.size≤9223372036854775807)) (Qbz.fn k (x.2.1,(bytesL s38),(bytesL s40),()) S fun r41 S=>Jret (r41.1,0,()) S) none) none) (q10 k Jnrm Jret (x.2.1,(strEq x.2.2.1 (bs [100,105,103,101,115,116])),()) S)
def Q9 (k:Nat):Pc PG R (su Tryz.f95 32687):=mkEnd T_ok (C k) _ c9 c11 (.cond (.seq (.drawn [] [0,1,2,3,4,5,6,7,8,9,10,11]) (.mask mr .auto)) (.seq .auto (.piece (Q10 k).h))) ⟨⟨(drawn_an (by kernel_rfl)),tr⟩,tr,(Q10 k).ok⟩ (fun x S K=>q9 k (kN K c11) (kR K mr) x S)
def q6 (k:Nat) (Jnrm:Kt R T2) (Jret:Kt R T1) (x:T0) (S:LL):Option R :=
 ifB x.2.2.2.1 (idxL x.1 (2:Int) fun v29=>asStr (leaf v29 0) fun s30=>H.Atoi.fn k (s30,()) S fun r31 S=>q7 k Jret (x.2.1,r31.1,()) S) (q9 k Jnrm Jret (x.1,x.2.1,x.2.2.1,(strEq x.2.2.1 (bs [99,104,97,110,103,101])),()) S)
def Q6 (k:Nat):Pc PG R (su Tryz.f95 8111):=mkEnd T_ok (C k) _ c6 c11 (.cond (.seq (.own [(4,1)]) (.piece (Q7 k).h)) (.seq .auto (.piece (Q9 k).h))) ⟨⟨tr,(Q7 k).ok⟩,tr,(Q9 k).ok⟩ (fun x S K=>q6 k (kN K c11) (kR K mr) x S)
def q5 (k:Nat) (Jnrm:Kt R T2) (Jret:Kt R T1) (x:T0) (S:LL):Option R :=
 ifB x.2.2.2.1 (Qav.fn k (x.2.1,()) S fun r26 S=>H.Itoa.fn k ((r26.1.length:Int),()) S fun r27 S=>catStr r27.1 (bs [10]) fun s28=>ifB (decide (s28.size≤9223372036854775807)) (Jret ((bytesL s28),0,()) S) none) (q6 k Jnrm Jret (x.1,x.2.1,x.2.2.1,(strEq x.2.2.1 (bs [102,105,114,115,116])),()) S)
def Q5 (k:Nat):Pc PG R (su Tryz.f95 1967):=mkEnd T_ok (C k) _ c5 c11 (.cond (.seq .auto (.mask mr .auto)) (.seq .auto (.piece (Q6 k).h))) ⟨⟨tr,tr⟩,tr,(Q6 k).ok⟩ (fun x S K=>q5 k (kN K c11) (kR K mr) x S)
def q4 (k:Nat) (Jnrm:Kt R T2) (Jret:Kt R T1) (x:T0) (S:LL):Option R :=
 ifB x.2.2.2.1 (Qaz.fn k (x.2.1,()) S fun r25 S=>Jret (r25.1,0,()) S) (q5 k Jnrm Jret (x.1,x.2.1,x.2.2.1,(strEq x.2.2.1 (bs [99,111,117,110,116])),()) S)
def Q4 (k:Nat):Pc PG R (su Tryz.f95 431):=mkEnd T_ok (C k) _ c4 c11 (.cond (.seq .auto (.mask mr .auto)) (.seq .auto (.piece (Q5 k).h))) ⟨⟨tr,tr⟩,tr,(Q5 k).ok⟩ (fun x S K=>q4 k (kN K c11) (kR K mr) x S)
def q3 (k:Nat) (Jnrm:Kt R T2) (Jret:Kt R T1) (x:(LL×LL×BA×U1)) (S:LL):Option R :=
 q4 k Jnrm Jret (x.1,x.2.1,x.2.2.1,(strEq x.2.2.1 (bs [115,111,114,116])),()) S
def Q3 (k:Nat):Pc PG R (su Tryz.f95 111):=mkEnd T_ok (C k) _ c3 c11 (.block (.seq .auto (.piece (Q4 k).h))) ⟨tr,(Q4 k).ok⟩ (fun x S K=>q3 k (kN K c11) (kR K mr) x S)
def q1 (k:Nat) (Jnrm:Kt R (LL×LL×U1)) (Jret:Kt R T1) (x:(LL×LL×Int×Bool×U1)) (S:LL):Option R :=
 ifB x.2.2.2.1 (Jret ([],x.2.2.1,()) S) (Jnrm (x.1,x.2.1,()) S)
def Q1 (k:Nat):Pc PG R (su Tryz.f95 55):=mkEnd T_ok (C k) _ c1 c2 (.cond (.seq .auto (.mask mr .auto)) .auto) ⟨⟨tr,tr⟩,tr⟩ (fun x S K=>q1 k (kN K c2) (kR K mr) x S)
def q11 (k:Nat) (Jret:Kt R T1) (x:T2) (S:LL):Option R :=
 Jret (x.1,0,()) S
def Q11 (k:Nat):Pc PG R (su Tryz.f95 63):=mkCut T_ok (C k) _ c11 (.seq (.own [(0,1)]) (.mask mr .auto)) ⟨tr,tr⟩ (fun x S K=>q11 k (kR K mr) x S)
def q2 (k:Nat) (Jret:Kt R T1) (x:(LL×LL×U1)) (S:LL):Option R :=
 idxL x.1 (0:Int) fun v23=>asStr (leaf v23 0) fun s24=>q3 k (fun o54 S=>q11 k Jret o54 S) Jret (x.1,x.2.1,s24,()) S
def Q2 (k:Nat):Pc PG R (su Tryz.f95 31):=mkCut T_ok (C k) _ c2 (.seq (.seq .auto (.piece (Q3 k).h)) (.piece (Q11 k).h)) ⟨⟨tr,(Q3 k).ok⟩,(Q11 k).ok⟩ (fun x S K=>q2 k (kR K mr) x S)
def q0 (k:Nat) (Jret:Kt R T1) (x:(LL×LL×Int×U1)) (S:LL):Option R :=
 q1 k (fun o22 S=>q2 k Jret o22 S) Jret (x.1,x.2.1,x.2.2.1,(x.2.2.1 != 0),()) S
def Q0 (k:Nat):Pc PG R (su Tryz.f95 15):=mkCut T_ok (C k) _ c0 (.seq (.seq .auto (.piece (Q1 k).h)) (.piece (Q2 k).h)) ⟨⟨tr,(Q1 k).ok⟩,(Q2 k).ok⟩ (fun x S K=>q0 k (kR K mr) x S)
def fn (k:Nat) (x:(N2×LL×U1)) (S:LL) (K:Kt R T1):Option R :=
 idxL x.2.1 (0:Int) fun v1=>asStr (leaf v1 0) fun s2=>ifB (strEq s2 (bs [106,111,105,110])) (slL x.2.1 (2:Int) (x.2.1.length:Int) fun l3=>Qbd.fn k (x.1,l3,()) S K) (ifB (strEq s2 (bs [101,120,112,97,110,100])) (newObj S (.obj 152 [(.ptr x.1.1 x.1.2),.nilsl,(.int .i64 (0:Int))]) fun i5 S=>idxL x.2.1 (2:Int) fun v6=>asStr (leaf v6 0) fun s7=>Qaq.fn k ((i5,0),s7,[],()) S fun r8 S=>objAt S i5 fun ty c9=>ldSl 1 c9 1 fun l10=>K (l10,r8) S) (ifB (strEq s2 (bs [112,105,99,107])) (slL x.2.1 (2:Int) (x.2.1.length:Int) fun l11=>Qbg.fn k (x.1,l11,()) S K) (ifB (strEq s2 (bs [108,105,115,116])) (idxL x.2.1 (2:Int) fun v13=>asStr (leaf v13 0) fun s14=>Qbe.fn k (x.1,s14,()) S fun r15 S=>K (r15.1,0,()) S) (ifB (strEq s2 (bs [118,97,114])) (idxL x.2.1 (2:Int) fun v16=>asStr (leaf v16 0) fun s17=>Qbl.fn k (x.1,s17,()) S K) (idxL x.2.1 (IntKind.wrap .i64 ((x.2.1.length:Int)-1)) fun v19=>asStr (leaf v19 0) fun s20=>Qbh.fn k (x.1,s20,()) S fun r21 S=>q0 k K (x.2.1,r21) S)))))
def en (k:Nat):Ent PG R:=mkFn T_ok Tryz.func95 ps rs (C k) (.seq .auto (.seq (.seq .auto (.block (.seq .auto (.cond (.seq .auto (.mask mr .auto)) (.seq .auto (.cond (.seq (.own [(2,1)]) (.seq .auto (.seq (.own [(3,1)]) (.mask mr .auto)))) (.seq .auto (.cond (.seq .auto (.mask mr .auto)) (.seq .auto (.cond (.seq .auto (.mask mr .auto)) (.seq .auto (.cond (.seq .auto (.mask mr .auto)) .auto)))))))))))) (.seq (.own [(8,1)]) (.piece (Q0 k).h)))) ⟨tr,⟨tr,tr,⟨tr,tr⟩,tr,⟨tr,tr,tr,tr⟩,tr,⟨tr,tr⟩,tr,⟨tr,tr⟩,tr,⟨tr,tr⟩,tr⟩,tr,(Q0 k).ok⟩ (fn k)
end G.Qbf
namespace G.Qco
abbrev ps:Mk:=sL 1 []
abbrev rs:Mk:=sO 5 1 []
abbrev mr:Mk:=n2 (sO 5 1 (n5 []))
def C (k:Nat):List (Ent PG R):=[]
def fn (k:Nat) (x:(LL×U1)) (S:LL) (K:Kt R (LL×U1)):Option R :=
 isNil (.sl 1 x.1) fun b1=>ifB (b1==true) (K ([],()) S) (app 1 [] x.1 fun l2=>K (l2,()) S)
def en (k:Nat):Ent PG R:=mkFn T_ok Tryz.func106 ps rs (C k) (.seq .auto (.seq (.seq .auto (.cond (.seq .auto (.mask mr .auto)) .auto)) (.seq .auto (.mask mr .auto)))) ⟨tr,⟨tr,⟨tr,tr⟩,tr⟩,tr,tr⟩ (fn k)
def anC:An R:=.seq .auto (.seq (.seq .auto (.cond (.seq .auto (.mask mr .auto)) .auto)) (.seq .auto (.mask mr .auto)))
theorem body:HSound PG 106 (lbody T (entC (C (R:=R) 0)) anC Tryz.f106) :=
 lbody_ok T_ok (entC_ok _) (fun c hc=>by
  have:c=cd Tryz.f106:=by
   have e:Tryz.f106.body=some (cd Tryz.f106):=by kernel_rfl
   rw [e] at hc;cases hc;rfl
  subst this
  exact ⟨tr,⟨tr,⟨tr,tr⟩,tr⟩,tr,tr⟩) Tryz.func106 (enters_ok Tryz.func106 (by kernel_rfl) (by kernel_rfl))
end G.Qco
namespace G.Qcp
abbrev ps:Mk:=[some (.lf (.sl 1))]
abbrev rs:Mk:=[some (.lf (.own 5 1))]
def fn (_k:Nat) (x:LL×U1) (S:LL) (K:Kt R (LL×U1)):Option R:=handF ps rs (cloneF 1) x S K
theorem ok (k:Nat):HSound PG 106 (hT (R:=R) ps fun x S K=>fn k x S fun r S=>K (resE rs r) S) :=
 hand_ok (enters_ok Tryz.func106 (by kernel_rfl) (by kernel_rfl)) (ps:=ps) (rs:=rs) (g:=cloneF 1) fun x r S hr=>by
  obtain ⟨xs,u⟩:=x
  obtain ⟨rfl,hd⟩:=cloneF_some hr
  refine LCalls.nilCases (fun h=>?_) ?_
  ·have h:xs=[]:=h
   subst h
   exact Qco.body.calls (by kernel_rfl)
  ·exact Qco.body.calls (Eq.trans (b:=app 1 [] xs fun l=>some (.own 5 1 l,S)) (by kernel_rfl) (by rw [app_at hd];rfl))
def en (k:Nat):Ent PG R:=⟨106,_,ok k⟩
end G.Qcp
namespace G.Qbm
abbrev ps:Mk:=sP (sS (sL 1 (sB [])))
abbrev rs:Mk:=sI []
abbrev c0:Mk:=sP (sS (sL 1 (sB (n5 (sI (nM 45 []))))))
abbrev c2:Mk:=sP (sS (sL 1 (sB (nM 51 []))))
abbrev mr:Mk:=n8 (sI (nM 46 []))
abbrev T2:=Int×U1
abbrev T1:=N2×BA×LL×Bool×U1
abbrev T0:=N2×BA×LL×Bool×Int×U1
def C (k:Nat):List (Ent PG R):=[Qcw.en k,Qcp.en k]
def q2 (k:Nat) (Jret:Kt R T2) (x:T1) (S:LL):Option R :=
 objAt S x.1.1 fun ty c16=>ldRaw c16 (x.1.2+7) fun v17=>asMap v17 fun i18=>Qcp.fn k (x.2.2.1,()) S fun r19 S'=>quiR S S' fun S=>mpAt S i18 .str fun m20=>setS (S.set i18 (.mp .str (mapPut m20 (.str x.2.1) (.agg [(.str x.2.1),(.bool x.2.2.2.1),(.sl 1 r19.1)])))) fun S=>Jret ((0:Int),()) S
def Q2 (k:Nat):Pc PG R (su Tryz.f96 63):=mkCut T_ok (C k) _ c2 (.seq (.quiet [(3,3)] [0,1,2,4,5,6,7,3,8,9,10]) (.seq .auto (.mask mr .auto))) ⟨(quiet_an (by kernel_rfl)),tr,tr⟩ (fun x S K=>q2 k (kR K mr) x S)
def q1 (k:Nat) (Jret:Kt R T2) (x:T0) (S:LL):Option R :=
 objAt S x.1.1 fun ty c14=>stO c14 (x.1.2+10) [(.int .i64 x.2.2.2.2.1)] fun c15=>setS (S.set x.1.1 (ty c15)) fun S=>q2 k Jret (x.1,x.2.1,x.2.2.1,x.2.2.2.1,()) S
def Q1 (k:Nat):Pc PG R (su Tryz.f96 31):=mkCut T_ok (C k) _ c0 (.seq (.own [(4,1)]) (.piece (Q2 k).h)) ⟨tr,(Q2 k).ok⟩ (fun x S K=>q1 k (kR K mr) x S)
def q0 (k:Nat) (Jret:Kt R T2) (x:T0) (S:LL):Option R :=
 ifB (decide ((x.2.2.1.length:Int)>100000)) (Jret ((5:Int),()) S) (ifB (decide (x.2.2.2.2.1>2000000)) (Jret ((5:Int),()) S) (q1 k Jret x S))
def Q0 (k:Nat):Pc PG R (su Tryz.f96 15):=mkCut T_ok (C k) _ c0 (.seq (.seq .auto (.cond (.seq .auto (.mask mr .auto)) .auto)) (.piece (Q1 k).h)) ⟨⟨tr,⟨tr,tr⟩,tr⟩,(Q1 k).ok⟩ (fun x S K=>q0 k (kR K mr) x S)
def fn (k:Nat) (x:T1) (S:LL) (K:Kt R T2):Option R :=
 objAt S x.1.1 fun ty c1=>ldSl 1 c1 ((x.1.2+0)+3) fun l2=>Qcw.fn k (l2,x.2.1,()) S fun r3 S=>ifB (!r3.1) (K (3,()) S) (objAt S x.1.1 fun ty c4=>ldInt .i64 c4 (x.1.2+10) fun n5=>objAt S x.1.1 fun ty c6=>ldRaw c6 (x.1.2+7) fun v7=>asMap v7 fun i8=>mpAt S i8 .str fun m9=>mat 3 ((mapGet m9 (.str x.2.1)).getD (.agg [(.str (bs [])),(.bool false),.nilsl])) fun c10=>asStr (c10.getD 0 .any) fun s11=>asBool (c10.getD 1 .any) fun b12=>asSl 1 (c10.getD 2 .any) fun l13=>q0 k K (x.1,x.2.1,x.2.2.1,x.2.2.2.1,(IntKind.wrap .i64 ((IntKind.wrap .i64 (n5-(l13.length:Int)))+(x.2.2.1.length:Int))),()) S)
def en (k:Nat):Ent PG R:=mkFn T_ok Tryz.func96 ps rs (C k) (.seq .auto (.seq (.seq (.own [(4,1)]) (.cond (.seq .auto (.mask mr .auto)) .auto)) (.seq (.drawn [(3,1),(7,3)] [0,1,2,4,5,6,8,13,14,3,7,9,10,11,12,15,16]) (.piece (Q0 k).h)))) ⟨tr,⟨tr,⟨tr,tr⟩,tr⟩,(drawn_an (by kernel_rfl)),(Q0 k).ok⟩ (fn k)
end G.Qbm
namespace G.Qbb
abbrev ps:Mk:=sP (sL 1 [])
abbrev rs:Mk:=sI []
abbrev mr:Mk:=n4 (sI (nM 65 []))
def C (k:Nat):List (Ent PG R):=[Qbk.en k,Qbh.en k,Qbj.en k,⟨94,H.Atoi.h k,H.Atoi.ok k⟩,Qbf.en k,Qbm.en k]
def fn (k:Nat) (x:(N2×LL×U1)) (S:LL) (K:Kt R (Int×U1)):Option R :=
 idxL x.2.1 (0:Int) fun v1=>asStr (leaf v1 0) fun s2=>ifB (strEq s2 (bs [116,101,108,108])) (slL x.2.1 (1:Int) (x.2.1.length:Int) fun l3=>Qbk.fn k (x.1,l3,()) S K) (ifB (strEq s2 (bs [110,101,101,100])) (idxL x.2.1 (1:Int) fun v5=>asStr (leaf v5 0) fun s6=>Qbh.fn k (x.1,s6,()) S fun r7 S=>K r7.2 S) (ifB (strEq s2 (bs [115,97,109,101])) (idxL x.2.1 (1:Int) fun v8=>asStr (leaf v8 0) fun s9=>idxL x.2.1 (2:Int) fun v10=>asStr (leaf v10 0) fun s11=>Qbj.fn k (x.1,s9,s11,()) S K) (ifB (strEq s2 (bs [102,97,105,108])) (idxL x.2.1 (1:Int) fun v13=>asStr (leaf v13 0) fun s14=>H.Atoi.fn k (s14,()) S fun r15 S=>K (r15.1,()) S) (Qbf.fn k x S fun r16 S=>ifB (r16.2.1 != 0) (K r16.2 S) (idxL x.2.1 (1:Int) fun v17=>asStr (leaf v17 0) fun s18=>idxL x.2.1 (0:Int) fun v19=>asStr (leaf v19 0) fun s20=>Qbm.fn k (x.1,s18,r16.1,(strEq s20 (bs [109,97,107,101])),()) S K)))))
def en (k:Nat):Ent PG R:=mkFn T_ok Tryz.func67 ps rs (C k) (.seq .auto (.seq (.seq .auto (.block (.seq .auto (.cond (.seq .auto (.mask mr .auto)) (.seq .auto (.cond (.seq (.own [(5,1)]) (.seq .auto (.mask mr .auto))) (.seq .auto (.cond (.seq (.drawn [] [0,1,2,3,4,5,6,7,8]) (.mask mr .auto)) (.seq .auto (.cond (.seq (.own [(4,1)]) (.seq .auto (.mask mr .auto))) .auto)))))))))) (.seq (.own [(3,1)]) (.seq (.seq .auto (.cond (.seq .auto (.mask mr .auto)) .auto)) (.seq (.drawn [] [0,1,2,3,4,5,6,7,8,9,10]) (.mask mr .auto)))))) ⟨tr,⟨tr,tr,⟨tr,tr⟩,tr,⟨tr,tr,tr⟩,tr,⟨(drawn_an (by kernel_rfl)),tr⟩,tr,⟨tr,tr,tr⟩,tr⟩,tr,⟨tr,⟨tr,tr⟩,tr⟩,(drawn_an (by kernel_rfl)),tr⟩ (fn k)
end G.Qbb
namespace G.Qbi
abbrev ps:Mk:=sP []
abbrev rs:Mk:=sI (sI [])
abbrev e0:Mk:=sP (nM 38 [])
abbrev m0:Mk:=sP (nX (sL 1 (sI (sI (nM 25 [])))))
abbrev mr:Mk:=n2 (sI (sI (nM 35 [])))
abbrev T0:=N2×LL×Int×Int×U1
def C (k:Nat):List (Ent PG R):=[Qbb.en k]
def b0 (k:Nat) (J0:Kt R (N2×U1)) (Jret:Kt R (Int×Int×U1)) (rec:Kt R T0) (x:T0) (S:LL):Option R :=
 ifB (decide (x.2.2.2.1<x.2.2.1)) (idxL x.2.1 x.2.2.2.1 fun v3=>asSl 1 (leaf v3 0) fun l4=>Qbb.fn k (x.1,l4,()) S fun r5 S=>ifB (r5.1 != 0) (Jret (r5.1,(IntKind.wrap .i64 (x.2.2.2.1+1)),()) S) (rec (x.1,x.2.1,x.2.2.1,(IntKind.wrap .i64 (x.2.2.2.1+1)),()) S)) (J0 (x.1,()) S)
def L0 (k:Nat):Pc PG R (.loop (su Tryz.f39 37)):=mkLoop T_ok (C k) _ m0 k (.seq .auto (.seq (.cond .auto (.mask e0 .auto)) (.seq (.block (.seq .auto (.seq .auto (.seq .auto (.cond (.seq .auto (.mask mr .auto)) .auto))))) .auto))) ⟨tr,⟨tr,tr⟩,⟨tr,tr,tr,⟨tr,tr⟩,tr⟩,tr⟩ (fun K=>b0 k (kX K 0 e0) (kR K mr))
def fn (k:Nat) (x:(N2×U1)) (S:LL) (K:Kt R (Int×Int×U1)):Option R :=
 objAt S x.1.1 fun ty c1=>ldSl 1 c1 ((x.1.2+0)+1) fun l2=>rounds (b0 k (fun o6 S=>objAt S o6.1.1 fun ty c7=>ldRaw c7 (o6.1.2+7) fun v8=>asMap v8 fun i9=>mpAt S i9 .str fun m10=>objAt S o6.1.1 fun ty c11=>ldSl 1 c11 ((o6.1.2+0)+3) fun l12=>ifB (decide ((m10.length:Int)<(l12.length:Int))) (K (1,0,()) S) (K (0,0,()) S)) K) k (x.1,l2,(l2.length:Int),0,()) S
def en (k:Nat):Ent PG R:=mkFn T_ok Tryz.func39 ps rs (C k) (.seq .auto (.seq (.seq (.own [(4,1)]) (.block (.piece (L0 k).h))) (.seq (.seq (.drawn [(3,3),(4,1),(9,1)] [0,1,2,5,6,7,8,3,4,9,10,11]) (.cond (.seq .auto (.mask mr .auto)) .auto)) (.seq .auto (.mask mr .auto))))) ⟨tr,⟨tr,(L0 k).ok⟩,⟨(drawn_an (by kernel_rfl)),⟨tr,tr⟩,tr⟩,tr,tr⟩ (fn k)
end G.Qbi
namespace G.Qcg
abbrev ps:Mk:=sh (.lf (.map)) []
abbrev rs:Mk:=sh (.fn 70 [.ptr]) []
abbrev mr:Mk:=n2 (sh (.fn 70 [.ptr]) (n1 []))
def C (k:Nat):List (Ent PG R):=[]
def fn (k:Nat) (x:(Nat×U1)) (S:LL) (K:Kt R ((N2×U1)×U1)):Option R :=
 newObj S (.obj 72 [(.map x.1)]) fun i1 S=>K (((i1,0),()),()) S
def en (k:Nat):Ent PG R:=mkFn T_ok Tryz.func41 ps rs (C k) (.seq (.own [(0,1)]) (.seq .auto (.mask mr .auto))) ⟨tr,tr,tr⟩ (fn k)
end G.Qcg
namespace G.Qcf
abbrev ps:Mk:=sh (.lf (.map)) []
abbrev rs:Mk:=sh (.fn 71 [.ptr]) []
abbrev mr:Mk:=n2 (sh (.fn 71 [.ptr]) (n1 []))
def C (k:Nat):List (Ent PG R):=[]
def fn (k:Nat) (x:(Nat×U1)) (S:LL) (K:Kt R ((N2×U1)×U1)):Option R :=
 newObj S (.obj 71 [(.map x.1)]) fun i1 S=>K (((i1,0),()),()) S
def en (k:Nat):Ent PG R:=mkFn T_ok Tryz.func42 ps rs (C k) (.seq (.own [(0,1)]) (.seq .auto (.mask mr .auto))) ⟨tr,tr,tr⟩ (fn k)
end G.Qcf
namespace G.Qac
abbrev ps:Mk:=sA [.str,.sl 1,.sl 2,.sl 1,.sl 2,jI] (sL 3 [])
abbrev rs:Mk:=sA [jI,.str,.sl 3,.sl 3,jI] (sI [])
abbrev c0:Mk:=n4 (sX [jI,.str,.raw,.raw,jI] (n5 (sX [jI,.str,.raw,.raw,jI] (nM 93 []))))
abbrev e0:Mk:=n4 (sX [jI,.str,.raw,.raw,jI] (n2 (sP (nM 96 []))))
abbrev e2:Mk:=n4 (sX [jI,.str,.raw,.raw,jI] (n2 (sP (n2 (sX [jI,.str,.raw,.raw,jI] (nM 93 []))))))
abbrev m0:Mk:=n4 (sX [jI,.str,.raw,.raw,jI] (n2 (sP (nM 20 (sL 3 (sI (sI (nM 73 []))))))))
abbrev m1:Mk:=n4 (sX [jI,.str,.raw,.raw,jI] (n2 (sP (n2 (sX [jI,.str,.raw,.raw,jI] (nM 48 (sL 1 (sI (sI (nM 42 []))))))))))
abbrev m2:Mk:=n4 (sX [jI,.str,.raw,.raw,jI] (n2 (sP (n2 (sX [jI,.str,.raw,.raw,jI] (nM 74 (sL 1 (sI (sI (nM 16 []))))))))))
abbrev mr:Mk:=n4 (sX [jI,.str,.sl 3,.sl 3,jI] (sI (nM 98 [])))
abbrev T5:=Int×BA×LV×LV×Int×U1
abbrev T4:=(Int×BA×LL×LL×Int×U1)×Int×U1
abbrev T3:=(BA×LL×LL×LL×LL×Int×U1)×LL×U1
abbrev T2:=T5×N2×LL×Int×Int×U1
abbrev T1:=T5×T5×U1
abbrev T0:=T5×N2×T5×LL×Int×Int×U1
def C (k:Nat):List (Ent PG R):=[Qah.en k,Qbi.en k,mkOr 70 (⟨40,H.SortedL.h k,H.SortedL.ok k⟩) (⟨40,H.SortedF.h k,H.SortedF.ok k⟩),Qcg.en k,Qcf.en k]
def b2 (k:Nat) (J4:Kt R T1) (rec:Kt R T0) (x:T0) (S:LL):Option R :=
 ifB (decide (x.2.2.2.2.2.1<x.2.2.2.2.1)) (idxL x.2.2.2.1 x.2.2.2.2.2.1 fun v43=>asStr (leaf v43 0) fun s44=>objAt S x.2.1.1 fun ty c45=>ldRaw c45 (x.2.1.2+7) fun v46=>asMap v46 fun i47=>mpAt S i47 .str fun m48=>mat 3 ((mapGet m48 (.str s44)).getD (.agg [(.str (bs [])),(.bool false),.nilsl])) fun c49=>asStr (c49.getD 0 .any) fun s50=>asBool (c49.getD 1 .any) fun b51=>asSl 1 (c49.getD 2 .any) fun l52=>appO 50 3 48 S x.2.2.1.2.2.1 [(.agg [(.str s50),(.bool b51),(.sl 1 l52)])] fun i54 n55 S=>rec (x.1,x.2.1,(x.2.2.1.1,x.2.2.1.2.1,(.osl i54 0 3 n55),x.2.2.1.2.2.2),x.2.2.2.1,x.2.2.2.2.1,(IntKind.wrap .i64 (x.2.2.2.2.2.1+1)),()) S) (J4 (x.1,x.2.2.1,()) S)
def L2 (k:Nat):Pc PG R (.loop (su Tryz.f11 19199)):=mkLoop T_ok (C k) _ m2 k (.seq .auto (.seq (.cond .auto (.mask c0 .auto)) (.seq (.block (.seq .auto (.drawn [(5,3),(9,1)] [0,1,2,3,4,6,5,7,8,9,10,11]))) .auto))) ⟨tr,⟨tr,tr⟩,⟨tr,(drawn_an (by kernel_rfl))⟩,tr⟩ (fun K=>b2 k (kX K 4 c0))
def b1 (k:Nat) (J2:Kt R (T5×N2×T5×U1)) (rec:Kt R T0) (x:T0) (S:LL):Option R :=
 ifB (decide (x.2.2.2.2.2.1<x.2.2.2.2.1)) (idxL x.2.2.2.1 x.2.2.2.2.2.1 fun v24=>asStr (leaf v24 0) fun s25=>objAt S x.2.1.1 fun ty c26=>ldRaw c26 (x.2.1.2+8) fun v27=>asMap v27 fun i28=>mpAt S i28 .str fun m29=>mat 3 ((mapGet m29 (.str s25)).getD (.agg [(.str (bs [])),(.str (bs [])),(.bool false)])) fun c30=>asStr (c30.getD 0 .any) fun s31=>asStr (c30.getD 1 .any) fun s32=>asBool (c30.getD 2 .any) fun b33=>appO 38 3 40 S x.2.2.1.2.2.2.1 [(.agg [(.str s31),(.str s32),(.bool b33)])] fun i35 n36 S=>rec (x.1,x.2.1,(x.2.2.1.1,x.2.2.1.2.1,x.2.2.1.2.2.1,(.osl i35 0 3 n36),x.2.2.1.2.2.2.2),x.2.2.2.1,x.2.2.2.2.1,(IntKind.wrap .i64 (x.2.2.2.2.2.1+1)),()) S) (J2 (x.1,x.2.1,x.2.2.1,()) S)
def L1 (k:Nat):Pc PG R (.loop (su Tryz.f11 2431)):=mkLoop T_ok (C k) _ m1 k (.seq .auto (.seq (.cond .auto (.mask e2 .auto)) (.seq (.block (.seq .auto (.drawn [(5,3),(9,1)] [0,1,2,3,4,6,5,7,8,9,10,11]))) .auto))) ⟨tr,⟨tr,tr⟩,⟨tr,(drawn_an (by kernel_rfl))⟩,tr⟩ (fun K=>b1 k (kX K 2 e2))
def q0 (k:Nat) (Jret:Kt R T4) (x:T1) (S:LL):Option R :=
 frzO 3 x.2.1.2.2.1 S fun c57 S=>frzO 3 x.2.1.2.2.2.1 S fun c58 S=>Jret ((x.2.1.1,x.2.1.2.1,c57,c58,x.2.1.2.2.2.2),0,()) S
def Q0 (k:Nat):Pc PG R (su Tryz.f11 1023):=mkCut T_ok (C k) _ c0 (.seq (.frl 10 2 3 (.frl 10 3 3 (.auto))) (.mask mr .auto)) ⟨tr,tr⟩ (fun x S K=>q0 k (kR K mr) x S)
def b0 (k:Nat) (J0:Kt R (T5×N2×U1)) (rec:Kt R T2) (x:T2) (S:LL):Option R :=
 ifB (decide (x.2.2.2.2.1<x.2.2.2.1)) (idxL x.2.2.1 x.2.2.2.2.1 fun v6=>mat 3 v6 fun c7=>asStr (c7.getD 0 .any) fun s8=>asBool (c7.getD 1 .any) fun b9=>asSl 1 (c7.getD 2 .any) fun l10=>objAt S x.2.1.1 fun ty c11=>ldRaw c11 (x.2.1.2+6) fun v12=>asMap v12 fun i13=>mpAt S i13 .str fun m14=>setS (S.set i13 (.mp .str (mapPut m14 (.str s8) (.agg [(.str s8),(.bool b9),(.sl 1 l10)])))) fun S=>rec (x.1,x.2.1,x.2.2.1,x.2.2.2.1,(IntKind.wrap .i64 (x.2.2.2.2.1+1)),()) S) (J0 (x.1,x.2.1,()) S)
def L0 (k:Nat):Pc PG R (.loop (su Tryz.f11 151)):=mkLoop T_ok (C k) _ m0 k (.seq .auto (.seq (.cond .auto (.mask e0 .auto)) (.seq (.block (.seq .auto (.drawn [(3,3)] [0,1,2,4,5,6,3,7]))) .auto))) ⟨tr,⟨tr,tr⟩,⟨tr,(drawn_an (by kernel_rfl))⟩,tr⟩ (fun K=>b0 k (kX K 0 e0))
def fn0 (k:Nat) (x:T3) (S:LL) (K:Kt R T4):Option R :=
 Qah.fn k x S fun r1 S=>ifB (r1.1 != 0) (K (((0:Int),(bs []),[],[],0,()),r1) S) (newObj S (.mp .str []) fun i2 S=>newObj S (.mp .str []) fun i3 S=>newObj S (.mp .str []) fun i4 S=>newObj S (.obj 74 [(.str x.1.1),(.sl 1 x.1.2.1),(.sl 2 x.1.2.2.1),(.sl 1 x.1.2.2.2.1),(.sl 2 x.1.2.2.2.2.1),(.int .i64 x.1.2.2.2.2.2.1),(.map i2),(.map i3),(.map i4),(.str (bs [])),(.int .i64 (0:Int))]) fun i5 S=>rounds (b0 k (fun o15 S=>Qbi.fn k o15.2 S fun r16 S=>objAt S o15.2.1.1 fun ty c17=>ldStr c17 (o15.2.1.2+9) fun s18=>objAt S o15.2.1.1 fun ty c19=>ldRaw c19 (o15.2.1.2+8) fun v20=>asMap v20 fun i21=>Qcg.fn k (i21,()) S fun r22 S=>H.SortedL.fn k r22 S fun r23 S=>rounds (b1 k (fun o37 S=>ifB (o37.2.2.1.1==0) (objAt S o37.2.1.1 fun ty c38=>ldRaw c38 (o37.2.1.2+7) fun v39=>asMap v39 fun i40=>Qcf.fn k (i40,()) S fun r41 S=>H.SortedF.fn k r41 S fun r42 S=>rounds (b2 k (fun o56 S=>q0 k K o56 S)) k (o37.1,o37.2.1,o37.2.2.1,r42.1,(r42.1.length:Int),0,()) S) (q0 k K (o37.1,o37.2.2) S))) k (o15.1,o15.2.1,(r16.1,s18,.nilsl,.nilsl,r16.2),r23.1,(r23.1.length:Int),0,()) S)) k (((0:Int),(bs []),.nilsl,.nilsl,0,()),(i5,0),x.2.1,(x.2.1.length:Int),0,()) S)
def en0 (k:Nat):Ent PG R:=mkFn T_ok Tryz.func11 ps rs (C k) (.seq .auto (.seq (.seq .auto (.seq .auto (.cond (.seq .auto (.mask mr .auto)) .auto))) (.seq (.own [(5,1)]) (.seq (.seq .auto (.block (.piece (L0 k).h))) (.seq .auto (.seq (.own [(2,1)]) (.seq (.own [(3,1)]) (.seq (.seq (.own [(3,3)]) (.block (.piece (L1 k).h))) (.seq (.seq .auto (.cond (.seq (.own [(3,3)]) (.block (.piece (L2 k).h))) .auto)) (.piece (Q0 k).h)))))))))) ⟨tr,⟨tr,tr,⟨tr,tr⟩,tr⟩,tr,⟨tr,(L0 k).ok⟩,tr,tr,tr,⟨tr,(L1 k).ok⟩,⟨tr,⟨tr,(L2 k).ok⟩,tr⟩,(Q0 k).ok⟩ (fn0 k)
def fn (k:Nat) (x:T3) (S:LL) (K:Kt R T4):Option R:=popK rs 6 S (fn0 k x S fun r S=>some (resE rs r,S)) K
def en (k:Nat):Ent PG R:=mkPop (rs:=rs) (en0 k).ok
end G.Qac
namespace G.Qcn
abbrev ps:Mk:=sR []
abbrev rs:Mk:=sR []
abbrev mr:Mk:=n2 (sR (n5 []))
def C (k:Nat):List (Ent PG R):=[]
def fn (k:Nat) (x:(LV×U1)) (S:LL) (K:Kt R (LV×U1)):Option R :=
 isNil (dup x.1) fun b1=>ifB (b1==true) (K (.nilsl,()) S) (newObj S (.obj 50 []) fun i2 S=>asSl 3 (dup x.1) fun l6=>appO 50 3 48 S (.osl i2 0 3 0) l6 fun i4 n5 S=>K ((.osl i4 0 3 n5),()) S)
def en (k:Nat):Ent PG R:=mkFn T_ok Tryz.func105 ps rs (C k) (.seq .auto (.seq (.seq (.own [(0,2)]) (.cond (.seq .auto (.mask mr .auto)) .auto)) (.seq (.own [(0,1),(1,2),(2,1)]) (.mask mr .auto)))) ⟨tr,⟨tr,⟨tr,tr⟩,tr⟩,tr,tr⟩ (fn k)
end G.Qcn
namespace G.Qbr
abbrev ps:Mk:=sR []
abbrev rs:Mk:=sL 3 []
abbrev e0:Mk:=n3 (sR (nM 20 []))
abbrev m0:Mk:=n3 (sR (n4 (sI (sI (nM 14 [])))))
abbrev mr:Mk:=n2 (sL 3 (nM 21 []))
abbrev T0:=LV×Int×Int×U1
def C (k:Nat):List (Ent PG R):=[Qcn.en k,Qcp.en k]
def b0 (k:Nat) (J0:Kt R (LV×U1)) (rec:Kt R T0) (x:T0) (S:LL):Option R :=
 ifB (decide (x.2.2.1<x.2.1)) (oslOr (dup x.1) (fun i4 p5 z7 n6=>ifB (Nat.beq z7 3) (idxN n6 x.2.2.1 fun v3=>objAt S i4 fun ty c8=>ldSl 1 c8 ((p5+v3*z7)+2) fun l9=>Qcp.fn k (l9,()) S fun r10 S=>oslOr (dup x.1) (fun i12 p13 z15 n14=>ifB (Nat.beq z15 3) (idxN n14 x.2.2.1 fun v11=>objAt S i12 fun ty c16=>stO c16 ((p13+v11*z15)+2) [(.own 5 1 r10.1)] fun c17=>setS (S.set i12 (ty c17)) fun S=>rec (x.1,x.2.1,(IntKind.wrap .i64 (x.2.2.1+1)),()) S) none) none) none) none) (J0 (x.1,()) S)
def L0 (k:Nat):Pc PG R (.loop (su Tryz.f81 75)):=mkLoop T_ok (C k) _ m0 k (.seq .auto (.seq (.cond .auto (.mask e0 .auto)) (.seq (.block (.seq .auto (.own [(0,2),(2,2),(4,1),(6,1),(8,1),(10,2)]))) .auto))) ⟨tr,⟨tr,tr⟩,⟨tr,tr⟩,tr⟩ (fun K=>b0 k (kX K 0 e0))
def fn0 (k:Nat) (x:(LV×U1)) (S:LL) (K:Kt R (LL×U1)):Option R :=
 Qcn.fn k ((dup x.1),()) S fun r1 S=>lenO (dup r1.1) fun n2=>rounds (b0 k (fun o18 S=>frzO 3 o18.1 S fun c19 S=>K (c19,()) S)) k (r1.1,(n2:Int),0,()) S
def en0 (k:Nat):Ent PG R:=mkFn T_ok Tryz.func81 ps rs (C k) (.seq .auto (.seq (.own [(0,2)]) (.seq (.seq (.own [(0,2),(1,1)]) (.block (.piece (L0 k).h))) (.seq (.own [(0,1)]) (.frr 2 3 (.mask mr .auto)))))) ⟨tr,tr,⟨tr,(L0 k).ok⟩,tr,tr⟩ (fn0 k)
def fn (k:Nat) (x:(LV×U1)) (S:LL) (K:Kt R (LL×U1)):Option R:=popK rs 6 S (fn0 k x S fun r S=>some (resE rs r,S)) K
def en (k:Nat):Ent PG R:=mkPop (rs:=rs) (en0 k).ok
end G.Qbr
namespace G.Qbs
def fn (k:Nat) (x:LL×U1) (S:LL) (K:Kt R (LL×U1)):Option R:=nilK Qbr.rs 3 x.1 (fun v=>Qbr.fn k (v,()) S fun r S=>some (resE Qbr.rs r,S)) K
def en (k:Nat):Ent PG R:=mkNil Qbr.rs 3 (Qbr.en k).ok
end G.Qbs
namespace G.Qba
abbrev ps:Mk:=sA [.str,.sl 1,.sl 2,.sl 1,.sl 2,jI] (sL 3 [])
abbrev rs:Mk:=sO 50 3 (sO 50 3 (sI []))
abbrev e0:Mk:=n1 (sL 3 (n2 (sO 50 3 (sO 50 3 (n2 (sh (.lf (.map)) (nM 47 [])))))))
abbrev e2:Mk:=n4 (sO 50 3 (sO 50 3 (nM 50 [])))
abbrev m0:Mk:=n1 (sL 3 (n2 (sO 50 3 (sO 50 3 (n2 (sh (.lf (.map)) (nM 15 (sL 3 (sI (sI (nM 29 [])))))))))))
abbrev m1:Mk:=n4 (sO 50 3 (sO 50 3 (n2 (sh (.lf (.map)) (nM 26 (sL 3 (sI (sI (nM 18 [])))))))))
abbrev mr:Mk:=n4 (sO 50 3 (sO 50 3 (sI (nM 49 []))))
abbrev T2:=LL×LL×Nat×LL×Int×Int×U1
abbrev T1:=LL×LL×LL×Nat×LL×Int×Int×U1
abbrev T0:=(BA×LL×LL×LL×LL×Int×U1)×LL×U1
def C (k:Nat):List (Ent PG R):=[Qac.en k,Qbs.en k]
def b1 (k:Nat) (J2:Kt R (LL×LL×U1)) (rec:Kt R T2) (x:T2) (S:LL):Option R :=
 ifB (decide (x.2.2.2.2.2.1<x.2.2.2.2.1)) (idxL x.2.2.2.1 x.2.2.2.2.2.1 fun v11=>mat 3 v11 fun c12=>asStr (c12.getD 0 .any) fun s13=>asBool (c12.getD 1 .any) fun b14=>asSl 1 (c12.getD 2 .any) fun l15=>mpAt S x.2.2.1 .str fun m16=>asBool ((mapGet m16 (.str s13)).getD (.bool false)) fun b17=>ifB b17 (app 48 x.1 [(.agg [(.str s13),(.bool b14),(.sl 1 l15)])] fun l18=>rec (l18,x.2.1,x.2.2.1,x.2.2.2.1,x.2.2.2.2.1,(IntKind.wrap .i64 (x.2.2.2.2.2.1+1)),()) S) (app 48 x.2.1 [(.agg [(.str s13),(.bool b14),(.sl 1 l15)])] fun l19=>rec (x.1,l19,x.2.2.1,x.2.2.2.1,x.2.2.2.2.1,(IntKind.wrap .i64 (x.2.2.2.2.2.1+1)),()) S)) (J2 (x.1,x.2.1,()) S)
def L1 (k:Nat):Pc PG R (.loop (su Tryz.f53 607)):=mkLoop T_ok (C k) _ m1 k (.seq .auto (.seq (.cond .auto (.mask e2 .auto)) (.seq (.block (.seq .auto (.seq .auto (.cond (.own [(0,1)]) (.own [(0,1)]))))) .auto))) ⟨tr,⟨tr,tr⟩,⟨tr,tr,tr,tr⟩,tr⟩ (fun K=>b1 k (kX K 2 e2))
def b0 (k:Nat) (J0:Kt R (LL×LL×LL×Nat×U1)) (rec:Kt R T1) (x:T1) (S:LL):Option R :=
 ifB (decide (x.2.2.2.2.2.2.1<x.2.2.2.2.2.1)) (idxL x.2.2.2.2.1 x.2.2.2.2.2.2.1 fun v3=>mat 3 v3 fun c4=>asStr (c4.getD 0 .any) fun s5=>asStr (c4.getD 1 .any) fun s6=>asBool (c4.getD 2 .any) fun b7=>mpAt S x.2.2.2.1 .str fun m8=>setS (S.set x.2.2.2.1 (.mp .str (mapPut m8 (.str s5) (.bool true)))) fun S=>rec (x.1,x.2.1,x.2.2.1,x.2.2.2.1,x.2.2.2.2.1,x.2.2.2.2.2.1,(IntKind.wrap .i64 (x.2.2.2.2.2.2.1+1)),()) S) (J0 (x.1,x.2.1,x.2.2.1,x.2.2.2.1,()) S)
def L0 (k:Nat):Pc PG R (.loop (su Tryz.f53 303)):=mkLoop T_ok (C k) _ m0 k (.seq .auto (.seq (.cond .auto (.mask e0 .auto)) (.seq (.block (.seq .auto .auto)) .auto))) ⟨tr,⟨tr,tr⟩,⟨tr,tr⟩,tr⟩ (fun K=>b0 k (kX K 0 e0))
def fn0 (k:Nat) (x:T0) (S:LL) (K:Kt R (LL×LL×Int×U1)):Option R :=
 Qac.fn k x S fun r1 S=>ifB (r1.2.1 != 0) (K ([],[],r1.2) S) (newObj S (.mp .str []) fun i2 S=>rounds (b0 k (fun o9 S=>Qbs.fn k (o9.1,()) S fun r10 S=>rounds (b1 k (fun o20 S=>K (o20.1,o20.2.1,0,()) S)) k (o9.2.1,o9.2.2.1,o9.2.2.2.1,r10.1,(r10.1.length:Int),0,()) S)) k (x.2.1,[],[],i2,r1.1.2.2.2.1,(r1.1.2.2.2.1.length:Int),0,()) S)
def en0 (k:Nat):Ent PG R:=mkFn T_ok Tryz.func53 ps rs (C k) (.seq .auto (.seq (.own [(3,1)]) (.seq (.seq .auto (.cond (.seq .auto (.mask mr .auto)) .auto)) (.seq .auto (.seq (.seq .auto (.block (.piece (L0 k).h))) (.seq (.seq .auto (.block (.piece (L1 k).h))) (.seq (.own [(0,1),(1,1)]) (.mask mr .auto)))))))) ⟨tr,tr,⟨tr,⟨tr,tr⟩,tr⟩,tr,⟨tr,(L0 k).ok⟩,⟨tr,(L1 k).ok⟩,tr,tr⟩ (fn0 k)
def fn (k:Nat) (x:T0) (S:LL) (K:Kt R (LL×LL×Int×U1)):Option R:=popK rs 6 S (fn0 k x S fun r S=>some (resE rs r,S)) K
def en (k:Nat):Ent PG R:=mkPop (rs:=rs) (en0 k).ok
end G.Qba
namespace G.Qae
abbrev ps:Mk:=sA [.str,.sl 1,.sl 2,.sl 1,.sl 2,jI] (sL 3 [])
abbrev rs:Mk:=sO 50 3 (sI [])
abbrev mr:Mk:=n4 (sO 50 3 (sI (nM 12 [])))
def C (k:Nat):List (Ent PG R):=[Qba.en k]
def fn (k:Nat) (x:((BA×LL×LL×LL×LL×Int×U1)×LL×U1)) (S:LL) (K:Kt R (LL×Int×U1)):Option R :=
 Qba.fn k x S fun r1 S=>K (r1.1,r1.2.2) S
def en (k:Nat):Ent PG R:=mkFn T_ok Tryz.func21 ps rs (C k) (.seq .auto (.seq (.own [(3,1)]) (.seq (.own [(0,1)]) (.mask mr .auto)))) ⟨tr,tr,tr,tr⟩ (fn k)
end G.Qae
namespace G.Qab
abbrev ps:Mk:=sL 3 []
abbrev rs:Mk:=sI []
abbrev c0:Mk:=sL 3 (n2 (sI (sX [.str,.str,.bool] (n3 (sL 3 (sI (sI (n9 (sB (nM 31 []))))))))))
abbrev z0:Mk:=sL 3 (n7 (sL 3 (sI (sI (nM 41 [])))))
abbrev e0:Mk:=nM 52 []
abbrev mr:Mk:=n2 (sI (nM 49 []))
abbrev T1:=LL×LL×Int×Int×U1
abbrev T0:=LL×Int×(BA×BA×Bool×U1)×LL×Int×Int×Bool×U1
def C (k:Nat):List (Ent PG R):=[Qbq.en k,Qbp.en k]
def q1 (k:Nat) (Jnrm:Kt R T0)  (x:T0) (S:LL):Option R :=
 ifB x.2.2.2.2.2.2.1 (Jnrm x S) (ifB (strEq x.2.2.1.2.1 (bs [])) (Jnrm (x.1,x.2.1,x.2.2.1,x.2.2.2.1,x.2.2.2.2.1,x.2.2.2.2.2.1,x.2.2.1.2.2) S) (Jnrm (x.1,x.2.1,x.2.2.1,x.2.2.2.1,x.2.2.2.2.1,x.2.2.2.2.2.1,false,()) S))
def Q1 (k:Nat):Pc PG R (su Tryz.f47 111819):=mkEnd T_ok (C k) _ c0 c0 (.cond .auto .auto) ⟨tr,tr⟩ (fun x S K=>q1 k (kN K c0) x S)
def q0 (k:Nat) (Jnrm:Kt R T1) (Jret:Kt R (Int×U1)) (x:T0) (S:LL):Option R :=
 ifB x.2.2.2.2.2.2.1 (Jret ((3:Int),()) S) (ifB (decide (x.2.1>0)) (idxL x.1 (IntKind.wrap .i64 (x.2.1-1)) fun v9=>asStr (leaf v9 0) fun s10=>ifB (strLt x.2.2.1.1 s10||strEq x.2.2.1.1 s10) (Jret ((8:Int),()) S) (Jnrm (x.1,x.2.2.2.1,x.2.2.2.2.1,x.2.2.2.2.2.1,()) S)) (Jnrm (x.1,x.2.2.2.1,x.2.2.2.2.1,x.2.2.2.2.2.1,()) S))
def Q0 (k:Nat):Pc PG R (su Tryz.f47 62667):=mkEnd T_ok (C k) _ c0 z0 (.cond (.seq .auto (.mask mr .auto)) (.seq (.drawn [] [0,1,2,3,4,5,6,7,8,9,10,11,12,13]) (.cond (.seq .auto (.mask mr .auto)) .auto))) ⟨⟨tr,tr⟩,(drawn_an (by kernel_rfl)),⟨tr,tr⟩,tr⟩ (fun x S K=>q0 k (kN K z0) (kR K mr) x S)
def b0 (k:Nat) (J0:Kt R (U1)) (Jret:Kt R (Int×U1)) (rec:Kt R T1) (x:T1) (S:LL):Option R :=
 ifB (decide (x.2.2.2.1<x.2.2.1)) (idxL x.2.1 x.2.2.2.1 fun v1=>mat 3 v1 fun c2=>asStr (c2.getD 0 .any) fun s3=>asStr (c2.getD 1 .any) fun s4=>asBool (c2.getD 2 .any) fun b5=>Qbq.fn k (s3,()) S fun r6 S=>ifB (!r6.1) (Jret ((3:Int),()) S) (ifB (!(strEq s4 (bs []))) (Qbp.fn k (s4,()) S fun r7 S=>q1 k (fun o8 S=>q0 k (fun o11 S=>rec (o11.1,o11.2.1,o11.2.2.1,(IntKind.wrap .i64 (o11.2.2.2.1+1)),()) S) Jret o8 S) (x.1,x.2.2.2.1,(s3,s4,b5,()),x.2.1,x.2.2.1,x.2.2.2.1,(!r7.1),()) S) (q1 k (fun o13 S=>q0 k (fun o14 S=>rec (o14.1,o14.2.1,o14.2.2.1,(IntKind.wrap .i64 (o14.2.2.2.1+1)),()) S) Jret o13 S) (x.1,x.2.2.2.1,(s3,s4,b5,()),x.2.1,x.2.2.1,x.2.2.2.1,false,()) S))) (J0 (()) S)
def L0 (k:Nat):Pc PG R (.loop (su Tryz.f47 75)):=mkLoop T_ok (C k) _ z0 k (.seq .auto (.seq (.cond .auto (.mask e0 .auto)) (.seq (.block (.seq .auto (.block (.seq .auto (.cond (.seq .auto (.mask mr .auto)) (.seq (.seq .auto (.piece (Q1 k).h)) (.piece (Q0 k).h))))))) .auto))) ⟨tr,⟨tr,tr⟩,⟨tr,tr,⟨tr,tr⟩,⟨tr,(Q1 k).ok⟩,(Q0 k).ok⟩,tr⟩ (fun K=>b0 k (kX K 0 e0) (kR K mr))
def fn (k:Nat) (x:(LL×U1)) (S:LL) (K:Kt R (Int×U1)):Option R :=
 ifB (decide ((x.1.length:Int)>4000)) (K (2,()) S) (rounds (b0 k (fun o16 S=>K (0,()) S) K) k (x.1,x.1,(x.1.length:Int),0,()) S)
def en (k:Nat):Ent PG R:=mkFn T_ok Tryz.func47 ps rs (C k) (.seq .auto (.seq (.seq .auto (.cond (.seq .auto (.mask mr .auto)) .auto)) (.seq (.seq .auto (.block (.piece (L0 k).h))) (.seq .auto (.mask mr .auto))))) ⟨tr,⟨tr,⟨tr,tr⟩,tr⟩,⟨tr,(L0 k).ok⟩,tr,tr⟩ (fn k)
end G.Qab
namespace G.Qdl
abbrev ps:Mk:=sS (sS [])
abbrev rs:Mk:=sI []
abbrev mr:Mk:=n4 (sI (n3 []))
def C (k:Nat):List (Ent PG R):=[⟨103,H.CompareString.h k,H.CompareString.ok k⟩]
def fn (k:Nat) (x:(BA×BA×U1)) (S:LL) (K:Kt R (Int×U1)):Option R :=
 H.CompareString.fn k x S K
def en (k:Nat):Ent PG R:=mkFn T_ok Tryz.func77 ps rs (C k) (.seq .auto (.seq .auto (.mask mr .auto))) ⟨tr,tr,tr⟩ (fn k)
end G.Qdl
namespace G.Qay
abbrev ps:Mk:=sA [.str,.bool,.sl 1] (sS [])
abbrev rs:Mk:=sI []
abbrev mr:Mk:=n4 (sI (n4 []))
def C (k:Nat):List (Ent PG R):=[Qdl.en k]
def fn (k:Nat) (x:((BA×Bool×LL×U1)×BA×U1)) (S:LL) (K:Kt R (Int×U1)):Option R :=
 Qdl.fn k (x.1.1,x.2) S K
def en (k:Nat):Ent PG R:=mkFn T_ok Tryz.func76 ps rs (C k) (.seq .auto (.seq .auto (.mask mr .auto))) ⟨tr,tr,tr⟩ (fn k)
end G.Qay
namespace G.Qcm
abbrev ps:Mk:=sL 3 (sS (sh (.fn 76 []) []))
abbrev rs:Mk:=sI (sB [])
abbrev e0:Mk:=sL 3 (sS (sh (.fn 76 []) (n5 (sI (sI (nM 39 []))))))
abbrev m0:Mk:=sL 3 (sS (sh (.fn 76 []) (n5 (sI (sI (sI (nM 38 [])))))))
abbrev mr:Mk:=n6 (sI (sB (nM 41 [])))
abbrev T0:=LL×BA×(U1)×Int×Int×Int×U1
def C (k:Nat):List (Ent PG R):=[Qay.en k]
def b0 (k:Nat) (J0:Kt R (LL×BA×(U1)×Int×Int×U1)) (rec:Kt R T0) (x:T0) (S:LL):Option R :=
 ifB (decide (x.2.2.2.2.1<x.2.2.2.2.2.1)) (ifB (decide ((1:Int)<0)) (none) (idxL x.1 (IntKind.wrap .i64 (shI .shr .u64 (IntKind.wrap .u64 (IntKind.wrap .i64 (x.2.2.2.2.1+x.2.2.2.2.2.1))) (1:Int))) fun v1=>mat 3 v1 fun c2=>asStr (c2.getD 0 .any) fun s3=>asBool (c2.getD 1 .any) fun b4=>asSl 1 (c2.getD 2 .any) fun l5=>Qay.fn k ((s3,b4,l5,()),x.2.1,()) S fun r6 S=>ifB (decide (r6.1<0)) (rec (x.1,x.2.1,(()),x.2.2.2.1,(IntKind.wrap .i64 ((IntKind.wrap .i64 (shI .shr .u64 (IntKind.wrap .u64 (IntKind.wrap .i64 (x.2.2.2.2.1+x.2.2.2.2.2.1))) (1:Int)))+1)),x.2.2.2.2.2) S) (rec (x.1,x.2.1,(()),x.2.2.2.1,x.2.2.2.2.1,(IntKind.wrap .i64 (shI .shr .u64 (IntKind.wrap .u64 (IntKind.wrap .i64 (x.2.2.2.2.1+x.2.2.2.2.2.1))) (1:Int))),()) S))) (J0 (x.1,x.2.1,(()),x.2.2.2.1,x.2.2.2.2.1,()) S)
def L0 (k:Nat):Pc PG R (.loop (su Tryz.f75 71)):=mkLoop T_ok (C k) _ m0 k (.seq (.seq .auto (.cond .auto (.mask e0 .auto))) (.block (.seq .auto (.seq .auto (.cond .auto .auto))))) ⟨⟨tr,tr,tr⟩,tr,tr,tr,tr⟩ (fun K=>b0 k (kX K 0 e0))
def fn (k:Nat) (x:(LL×BA×(U1)×U1)) (S:LL) (K:Kt R (Int×Bool×U1)):Option R :=
 rounds (b0 k (fun o7 S=>ifB (decide (o7.2.2.2.2.1<o7.2.2.2.1)) (idxL o7.1 o7.2.2.2.2.1 fun v8=>mat 3 v8 fun c9=>asStr (c9.getD 0 .any) fun s10=>asBool (c9.getD 1 .any) fun b11=>asSl 1 (c9.getD 2 .any) fun l12=>Qay.fn k ((s10,b11,l12,()),o7.2.1,()) S fun r13 S=>K (o7.2.2.2.2.1,(r13.1==0),()) S) (K (o7.2.2.2.2.1,false,()) S))) k (x.1,x.2.1,(()),(x.1.length:Int),0,(x.1.length:Int),()) S
def en (k:Nat):Ent PG R:=mkFn T_ok Tryz.func75 ps rs (C k) (.seq .auto (.seq .auto (.seq .auto (.seq (.block (.piece (L0 k).h)) (.seq .auto (.mask mr .auto)))))) ⟨tr,tr,tr,(L0 k).ok,tr,tr⟩ (fn k)
end G.Qcm
namespace G.Qax
abbrev ps:Mk:=sL 3 (sS [])
abbrev rs:Mk:=sA [.str,.str,.bool] []
abbrev mr:Mk:=n4 (sX [.str,.str,.bool] (nM 25 []))
def C (k:Nat):List (Ent PG R):=[Qcm.en k,Qbo.en k]
def fn (k:Nat) (x:(LL×BA×U1)) (S:LL) (K:Kt R ((BA×BA×Bool×U1)×U1)):Option R :=
 Qcm.fn k (x.1,x.2.1,(()),()) S fun r1 S=>ifB (!r1.2.1) (K ((x.2.1,(bs []),false,()),()) S) (idxL x.1 r1.1 fun v2=>asSl 1 (leaf v2 2) fun l3=>idxL x.1 r1.1 fun v4=>asBool (leaf v4 1) fun b5=>Qbo.fn k (l3,()) S fun r6 S=>K ((x.2.1,r6.1,b5,()),()) S)
def en (k:Nat):Ent PG R:=mkFn T_ok Tryz.func49 ps rs (C k) (.seq .auto (.seq (.own [(3,1)]) (.seq (.seq .auto (.cond (.seq .auto (.mask mr .auto)) .auto)) (.seq (.drawn [] [0,1,2,3,4,5,7,8,9,10,11,6,12,13]) (.mask mr .auto))))) ⟨tr,tr,⟨tr,⟨tr,tr⟩,tr⟩,(drawn_an (by kernel_rfl)),tr⟩ (fn k)
end G.Qax
namespace G.Qad
abbrev ps:Mk:=sL 3 (sL 3 [])
abbrev rs:Mk:=sO 38 3 (sI [])
abbrev e0:Mk:=n8 (sO 38 3 (nM 27 []))
abbrev m0:Mk:=n1 (sL 3 (n6 (sO 38 3 (nM 12 (sL 3 (sI (sI (nM 12 []))))))))
abbrev mr:Mk:=n4 (sO 38 3 (sI (nM 30 [])))
abbrev T0:=LL×LL×LL×Int×Int×U1
def C (k:Nat):List (Ent PG R):=[Qab.en k,Qbn.en k,Qax.en k]
def b0 (k:Nat) (J0:Kt R (LL×U1)) (rec:Kt R T0) (x:T0) (S:LL):Option R :=
 ifB (decide (x.2.2.2.2.1<x.2.2.2.1)) (idxL x.2.2.1 x.2.2.2.2.1 fun v3=>mat 3 v3 fun c4=>asStr (c4.getD 0 .any) fun s5=>asStr (c4.getD 1 .any) fun s6=>asBool (c4.getD 2 .any) fun b7=>Qax.fn k (x.1,s5,()) S fun r8 S=>app 40 x.2.1 [(.agg [(.str r8.1.1),(.str r8.1.2.1),(.bool r8.1.2.2.1)])] fun l9=>rec (x.1,l9,x.2.2.1,x.2.2.2.1,(IntKind.wrap .i64 (x.2.2.2.2.1+1)),()) S) (J0 (x.2.1,()) S)
def L0 (k:Nat):Pc PG R (.loop (su Tryz.f18 303)):=mkLoop T_ok (C k) _ m0 k (.seq .auto (.seq (.cond .auto (.mask e0 .auto)) (.seq (.block (.seq .auto (.own [(0,1)]))) .auto))) ⟨tr,⟨tr,tr⟩,⟨tr,tr⟩,tr⟩ (fun K=>b0 k (kX K 0 e0))
def fn (k:Nat) (x:(LL×LL×U1)) (S:LL) (K:Kt R (LL×Int×U1)):Option R :=
 Qab.fn k (x.1,()) S fun r1 S=>ifB (r1.1 != 0) (K ([],r1) S) (Qbn.fn k x.2 S fun r2 S=>ifB (r2.1 != 0) (K ([],r2) S) (rounds (b0 k (fun o10 S=>K (o10.1,0,()) S)) k (x.2.1,[],x.1,(x.1.length:Int),0,()) S))
def en (k:Nat):Ent PG R:=mkFn T_ok Tryz.func18 ps rs (C k) (.seq .auto (.seq (.seq .auto (.seq .auto (.cond (.seq .auto (.mask mr .auto)) .auto))) (.seq (.seq .auto (.seq .auto (.cond (.seq .auto (.mask mr .auto)) .auto))) (.seq .auto (.seq (.seq .auto (.block (.piece (L0 k).h))) (.seq (.own [(0,1)]) (.mask mr .auto))))))) ⟨tr,⟨tr,tr,⟨tr,tr⟩,tr⟩,⟨tr,tr,⟨tr,tr⟩,tr⟩,tr,⟨tr,(L0 k).ok⟩,tr,tr⟩ (fn k)
end G.Qad
namespace G.Qde
abbrev ps:Mk:=[]
abbrev rs:Mk:=sB []
abbrev mr:Mk:=sB (nM 24 [])
def C (k:Nat):List (Ent PG R):=[Qad.en k]
def fn (k:Nat) (x:(U1)) (S:LL) (K:Kt R (Bool×U1)):Option R :=
 Qad.fn k ([(.agg [(.str (bs [97])),(.str (bs [])),(.bool false)])],[(.agg [(.str (bs [97])),(.bool false),.nilsl])],()) S fun r1 S=>ifB (r1.2.1==0) (ifB ((r1.1.length:Int)==1) (idxL r1.1 (0:Int) fun v2=>asStr (leaf v2 1) fun s3=>K ((strEq s3 (bs [99,98,102,50,57,99,101,52,56,52,50,50,50,51,50,53])),()) S) (K (false,()) S)) (K (false,()) S)
def en (k:Nat):Ent PG R:=mkFn T_ok Tryz.func12 ps rs (C k) (.seq .auto (.seq (.own [(5,1)]) (.seq .auto (.mask mr .auto)))) ⟨tr,tr,tr,tr⟩ (fn k)
end G.Qde
namespace G.Qag
abbrev ps:Mk:=sA [.str,.sl 1,.sl 2,.sl 1,.sl 2,jI] (sL 3 [])
abbrev rs:Mk:=sO 9 1 (sI [])
abbrev e0:Mk:=n8 (sI (sO 9 1 (nM 23 [])))
abbrev m0:Mk:=n8 (sI (sO 9 1 (n9 (sL 3 (sI (sI (nM 11 [])))))))
abbrev mr:Mk:=n4 (sO 9 1 (sI (nM 27 [])))
abbrev T0:=Int×LL×LL×Int×Int×U1
def C (k:Nat):List (Ent PG R):=[Qba.en k]
def b0 (k:Nat) (J0:Kt R (Int×LL×U1)) (rec:Kt R T0) (x:T0) (S:LL):Option R :=
 ifB (decide (x.2.2.2.2.1<x.2.2.2.1)) (idxL x.2.2.1 x.2.2.2.2.1 fun v2=>mat 3 v2 fun c3=>asStr (c3.getD 0 .any) fun s4=>asBool (c3.getD 1 .any) fun b5=>asSl 1 (c3.getD 2 .any) fun l6=>app 16 x.2.1 [(.str s4)] fun l7=>rec (x.1,l7,x.2.2.1,x.2.2.2.1,(IntKind.wrap .i64 (x.2.2.2.2.1+1)),()) S) (J0 (x.1,x.2.1,()) S)
def L0 (k:Nat):Pc PG R (.loop (su Tryz.f22 151)):=mkLoop T_ok (C k) _ m0 k (.seq .auto (.seq (.cond .auto (.mask e0 .auto)) (.seq (.block (.seq .auto (.own [(0,1)]))) .auto))) ⟨tr,⟨tr,tr⟩,⟨tr,tr⟩,tr⟩ (fun K=>b0 k (kX K 0 e0))
def fn (k:Nat) (x:((BA×LL×LL×LL×LL×Int×U1)×LL×U1)) (S:LL) (K:Kt R (LL×Int×U1)):Option R :=
 Qba.fn k x S fun r1 S=>rounds (b0 k (fun o8 S=>K (o8.2.1,o8.1,()) S)) k (r1.2.2.1,[],r1.2.1,(r1.2.1.length:Int),0,()) S
def en (k:Nat):Ent PG R:=mkFn T_ok Tryz.func22 ps rs (C k) (.seq .auto (.seq (.own [(3,1)]) (.seq .auto (.seq (.seq .auto (.block (.piece (L0 k).h))) (.seq (.own [(0,1)]) (.mask mr .auto)))))) ⟨tr,tr,tr,⟨tr,(L0 k).ok⟩,tr,tr⟩ (fn k)
end G.Qag
namespace G.Qdd
abbrev ps:Mk:=sS (sA [.str,.bool,.sl 1] [])
abbrev rs:Mk:=sB []
abbrev mr:Mk:=n4 (sB (n4 []))
def C (k:Nat):List (Ent PG R):=[]
def fn (k:Nat) (x:(BA×(BA×Bool×LL×U1)×U1)) (S:LL) (K:Kt R (Bool×U1)):Option R :=
 K ((strEq x.2.1.1 x.1),()) S
def en (k:Nat):Ent PG R:=mkFn T_ok Tryz.func24 ps rs (C k) (.seq .auto (.seq .auto (.mask mr .auto))) ⟨tr,tr,tr⟩ (fn k)
end G.Qdd
namespace G.Qcx
abbrev ps:Mk:=sL 3 (sh (.fn 1000024 [.str]) [])
abbrev rs:Mk:=sI []
abbrev e0:Mk:=nM 19 []
abbrev m0:Mk:=sL 3 (sh (.fn 1000024 [.str]) (n5 (sI (sI (nX [])))))
abbrev mr:Mk:=n4 (sI (nM 14 []))
abbrev T0:=LL×(BA×U1)×Int×Int×U1
def C (k:Nat):List (Ent PG R):=[Qdd.en k]
def b0 (k:Nat) (J0:Kt R (U1)) (Jret:Kt R (Int×U1)) (rec:Kt R T0) (x:T0) (S:LL):Option R :=
 ifB (decide (x.2.2.2.1<x.2.2.1)) (idxL x.1 x.2.2.2.1 fun v1=>mat 3 v1 fun c2=>asStr (c2.getD 0 .any) fun s3=>asBool (c2.getD 1 .any) fun b4=>asSl 1 (c2.getD 2 .any) fun l5=>Qdd.fn k (x.2.1.1,(s3,b4,l5,()),()) S fun r6 S=>ifB r6.1 (Jret x.2.2.2 S) (rec (x.1,x.2.1,x.2.2.1,(IntKind.wrap .i64 (x.2.2.2.1+1)),()) S)) (J0 (()) S)
def L0 (k:Nat):Pc PG R (.loop (su Tryz.f43 37)):=mkLoop T_ok (C k) _ m0 k (.seq .auto (.seq (.cond .auto (.mask e0 .auto)) (.seq (.block (.seq .auto (.seq .auto (.cond (.seq .auto (.mask mr .auto)) .auto)))) .auto))) ⟨tr,⟨tr,tr⟩,⟨tr,tr,⟨tr,tr⟩,tr⟩,tr⟩ (fun K=>b0 k (kX K 0 e0) (kR K mr))
def fn (k:Nat) (x:(LL×(BA×U1)×U1)) (S:LL) (K:Kt R (Int×U1)):Option R :=
 rounds (b0 k (fun o7 S=>K (-1,()) S) K) k (x.1,x.2.1,(x.1.length:Int),0,()) S
def en (k:Nat):Ent PG R:=mkFn T_ok Tryz.func43 ps rs (C k) (.seq .auto (.seq (.seq .auto (.block (.piece (L0 k).h))) (.seq .auto (.mask mr .auto)))) ⟨tr,⟨tr,(L0 k).ok⟩,tr,tr⟩ (fn k)
end G.Qcx
namespace G.Qcs
abbrev ps:Mk:=sL 3 (sh (.fn 1000024 [.str]) [])
abbrev rs:Mk:=sB []
abbrev mr:Mk:=n4 (sB (n4 []))
def C (k:Nat):List (Ent PG R):=[Qcx.en k]
def fn (k:Nat) (x:(LL×(BA×U1)×U1)) (S:LL) (K:Kt R (Bool×U1)):Option R :=
 Qcx.fn k x S fun r1 S=>K ((decide (r1.1≥0)),()) S
def en (k:Nat):Ent PG R:=mkFn T_ok Tryz.func23 ps rs (C k) (.seq .auto (.seq .auto (.mask mr .auto))) ⟨tr,tr,tr⟩ (fn k)
end G.Qcs
namespace G.Qdf
abbrev ps:Mk:=sA [.str,.sl 1,.sl 2,.sl 1,.sl 2,jI] []
abbrev rs:Mk:=sB []
abbrev c0:Mk:=n1 (sX [.str,.sl 1,.sl 2,.sl 1,.sl 2,jI] (n1 (sI (nM 24 []))))
abbrev e0:Mk:=nM 28 []
abbrev mr:Mk:=n2 (sB (nM 25 []))
abbrev T0:=(BA×LL×LL×LL×LL×Int×U1)×Int×U1
def C (k:Nat):List (Ent PG R):=[]
def q0 (k:Nat) (Jnrm:Kt R T0)  (x:T0) (S:LL):Option R :=
 Jnrm (x.1,(IntKind.wrap .i64 (x.2.1+1)),()) S
def Q0 (k:Nat):Pc PG R (su Tryz.f13 229):=mkEnd T_ok (C k) _ c0 c0 (.auto) tr (fun x S K=>q0 k (kN K c0) x S)
def b0 (k:Nat) (J0:Kt R (U1)) (Jret:Kt R (Bool×U1)) (rec:Kt R T0) (x:T0) (S:LL):Option R :=
 ifB (decide (x.2.1<(x.1.2.1.length:Int))) (idxL x.1.2.1 x.2.1 fun v1=>asSl 1 (leaf v1 0) fun l2=>ifB (decide ((l2.length:Int)>0)) (idxL x.1.2.1 x.2.1 fun v3=>asSl 1 (leaf v3 0) fun l4=>idxL l4 (0:Int) fun v5=>asStr (leaf v5 0) fun s6=>ifB (strEq s6 (bs [108,105,115,116])) (Jret (true,()) S) (q0 k rec x S)) (q0 k rec x S)) (J0 (()) S)
def L0 (k:Nat):Pc PG R (.loop (su Tryz.f13 37)):=mkLoop T_ok (C k) _ c0 k (.seq (.seq .auto (.cond .auto (.mask e0 .auto))) (.seq (.block (.seq .auto (.cond (.seq .auto (.mask mr .auto)) .auto))) (.piece (Q0 k).h))) ⟨⟨tr,tr,tr⟩,⟨tr,⟨tr,tr⟩,tr⟩,(Q0 k).ok⟩ (fun K=>b0 k (kX K 0 e0) (kR K mr))
def fn (k:Nat) (x:((BA×LL×LL×LL×LL×Int×U1)×U1)) (S:LL) (K:Kt R (Bool×U1)):Option R :=
 rounds (b0 k (fun o9 S=>K (false,()) S) K) k (x.1,0,()) S
def en (k:Nat):Ent PG R:=mkFn T_ok Tryz.func13 ps rs (C k) (.seq .auto (.seq (.seq .auto (.block (.piece (L0 k).h))) (.seq .auto (.mask mr .auto)))) ⟨tr,⟨tr,(L0 k).ok⟩,tr,tr⟩ (fn k)
end G.Qdf
namespace G.Qdg
abbrev ps:Mk:=sA [.str,.bool,.sl 1] (sA [.str,.bool,.sl 1] [])
abbrev rs:Mk:=sB []
abbrev mr:Mk:=n4 (sB (nM 19 []))
abbrev T0:=BA×Bool×LL×U1
def C (k:Nat):List (Ent PG R):=[Qbx.en k]
def fn (k:Nat) (x:(T0×T0×U1)) (S:LL) (K:Kt R (Bool×U1)):Option R :=
 ifB (strEq x.1.1 x.2.1.1) (ifB (x.1.2.1==x.2.1.2.1) (Qbx.fn k (x.1.2.2.1,x.2.1.2.2) S K) (K (false,()) S)) (K (false,()) S)
def en (k:Nat):Ent PG R:=mkFn T_ok Tryz.func59 ps rs (C k) (.seq .auto (.seq .auto (.mask mr .auto))) ⟨tr,tr,tr⟩ (fn k)
end G.Qdg
namespace G.Qdh
abbrev ps:Mk:=sL 3 (sL 3 [])
abbrev rs:Mk:=sB []
abbrev e0:Mk:=nM 27 []
abbrev m0:Mk:=sL 3 (sL 3 (n3 (sI (nM 21 []))))
abbrev mr:Mk:=n4 (sB (nM 22 []))
def C (k:Nat):List (Ent PG R):=[Qdg.en k]
def b0 (k:Nat) (J0:Kt R (U1)) (Jret:Kt R (Bool×U1)) (rec:Kt R (LL×LL×Int×U1)) (x:(LL×LL×Int×U1)) (S:LL):Option R :=
 ifB (decide (x.2.2.1<(x.1.length:Int))) (idxL x.1 x.2.2.1 fun v1=>mat 3 v1 fun c2=>asStr (c2.getD 0 .any) fun s3=>asBool (c2.getD 1 .any) fun b4=>asSl 1 (c2.getD 2 .any) fun l5=>idxL x.2.1 x.2.2.1 fun v6=>mat 3 v6 fun c7=>asStr (c7.getD 0 .any) fun s8=>asBool (c7.getD 1 .any) fun b9=>asSl 1 (c7.getD 2 .any) fun l10=>Qdg.fn k ((s3,b4,l5,()),(s8,b9,l10,()),()) S fun r11 S=>ifB (!r11.1) (Jret (false,()) S) (rec (x.1,x.2.1,(IntKind.wrap .i64 (x.2.2.1+1)),()) S)) (J0 (()) S)
def L0 (k:Nat):Pc PG R (.loop (su Tryz.f32 75)):=mkLoop T_ok (C k) _ m0 k (.seq (.seq .auto (.cond .auto (.mask e0 .auto))) (.seq (.block (.seq (.drawn [] [0,1,2,3,4,5,6,7,8,9]) (.cond (.seq .auto (.mask mr .auto)) .auto))) .auto)) ⟨⟨tr,tr,tr⟩,⟨(drawn_an (by kernel_rfl)),⟨tr,tr⟩,tr⟩,tr⟩ (fun K=>b0 k (kX K 0 e0) (kR K mr))
def fn (k:Nat) (x:(LL×LL×U1)) (S:LL) (K:Kt R (Bool×U1)):Option R :=
 ifB ((x.1.length:Int) != (x.2.1.length:Int)) (K (false,()) S) (rounds (b0 k (fun o12 S=>K (true,()) S) K) k (x.1,x.2.1,0,()) S)
def en (k:Nat):Ent PG R:=mkFn T_ok Tryz.func32 ps rs (C k) (.seq .auto (.seq (.seq .auto (.cond (.seq .auto (.mask mr .auto)) .auto)) (.seq (.seq .auto (.block (.piece (L0 k).h))) (.seq .auto (.mask mr .auto))))) ⟨tr,⟨tr,⟨tr,tr⟩,tr⟩,⟨tr,(L0 k).ok⟩,tr,tr⟩ (fn k)
end G.Qdh
namespace G.Qdi
abbrev ps:Mk:=sL 3 (sL 3 [])
abbrev rs:Mk:=sB []
abbrev e0:Mk:=nM 26 []
abbrev m0:Mk:=sL 3 (sL 3 (n3 (sI (nM 20 []))))
abbrev mr:Mk:=n4 (sB (nM 21 []))
def C (k:Nat):List (Ent PG R):=[]
def b0 (k:Nat) (J0:Kt R (U1)) (Jret:Kt R (Bool×U1)) (rec:Kt R (LL×LL×Int×U1)) (x:(LL×LL×Int×U1)) (S:LL):Option R :=
 ifB (decide (x.2.2.1<(x.1.length:Int))) (idxL x.1 x.2.2.1 fun v1=>mat 3 v1 fun c2=>asStr (c2.getD 0 .any) fun s3=>asStr (c2.getD 1 .any) fun s4=>asBool (c2.getD 2 .any) fun b5=>idxL x.2.1 x.2.2.1 fun v6=>mat 3 v6 fun c7=>asStr (c7.getD 0 .any) fun s8=>asStr (c7.getD 1 .any) fun s9=>asBool (c7.getD 2 .any) fun b10=>ifB (!((strEq s3 s8&&(strEq s4 s9&&(b5==b10&&true)))==true)) (Jret (false,()) S) (rec (x.1,x.2.1,(IntKind.wrap .i64 (x.2.2.1+1)),()) S)) (J0 (()) S)
def L0 (k:Nat):Pc PG R (.loop (su Tryz.f45 75)):=mkLoop T_ok (C k) _ m0 k (.seq (.seq .auto (.cond .auto (.mask e0 .auto))) (.seq (.block (.seq (.drawn [] [0,1,2,3,4,5,6,7,8]) (.cond (.seq .auto (.mask mr .auto)) .auto))) .auto)) ⟨⟨tr,tr,tr⟩,⟨(drawn_an (by kernel_rfl)),⟨tr,tr⟩,tr⟩,tr⟩ (fun K=>b0 k (kX K 0 e0) (kR K mr))
def fn (k:Nat) (x:(LL×LL×U1)) (S:LL) (K:Kt R (Bool×U1)):Option R :=
 ifB ((x.1.length:Int) != (x.2.1.length:Int)) (K (false,()) S) (rounds (b0 k (fun o11 S=>K (true,()) S) K) k (x.1,x.2.1,0,()) S)
def en (k:Nat):Ent PG R:=mkFn T_ok Tryz.func45 ps rs (C k) (.seq .auto (.seq (.seq .auto (.cond (.seq .auto (.mask mr .auto)) .auto)) (.seq (.seq .auto (.block (.piece (L0 k).h))) (.seq .auto (.mask mr .auto))))) ⟨tr,⟨tr,⟨tr,tr⟩,tr⟩,⟨tr,(L0 k).ok⟩,tr,tr⟩ (fn k)
end G.Qdi
namespace G.Qdj
abbrev ps:Mk:=sA [jI,.str,.sl 3,.sl 3,jI] (sA [jI,.str,.sl 3,.sl 3,jI] [])
abbrev rs:Mk:=sB []
abbrev mr:Mk:=n4 (sB (nM 33 []))
abbrev T0:=Int×BA×LL×LL×Int×U1
def C (k:Nat):List (Ent PG R):=[Qdh.en k,Qdi.en k]
def fn (k:Nat) (x:(T0×T0×U1)) (S:LL) (K:Kt R (Bool×U1)):Option R :=
 ifB (x.1.1==x.2.1.1) (ifB (strEq x.1.2.1 x.2.1.2.1) (Qdh.fn k (x.1.2.2.1,x.2.1.2.2.1,()) S fun r1 S=>ifB r1.1 (Qdi.fn k (x.1.2.2.2.1,x.2.1.2.2.2.1,()) S fun r2 S=>ifB r2.1 (K ((x.1.2.2.2.2.1==x.2.1.2.2.2.2.1),()) S) (K (false,()) S)) (K (false,()) S)) (K (false,()) S)) (K (false,()) S)
def en (k:Nat):Ent PG R:=mkFn T_ok Tryz.func15 ps rs (C k) (.seq .auto (.seq .auto (.mask mr .auto))) ⟨tr,tr,tr⟩ (fn k)
end G.Qdj
namespace G.Qdc
abbrev ps:Mk:=sA [.str,.sl 1,.sl 2,.sl 1,.sl 2,jI] (sL 3 [])
abbrev rs:Mk:=sB []
abbrev c0:Mk:=n1 (sL 3 (sX [.str,.sl 1,.sl 2,.sl 1,.sl 2,jI] (n2 (sO 50 3 (n1 (sO 9 1 (nM 87 [])))))))
abbrev c1:Mk:=n1 (sL 3 (sX [.str,.sl 1,.sl 2,.sl 1,.sl 2,jI] (n2 (sO 50 3 (n1 (sO 9 1 (sI (nM 86 []))))))))
abbrev z1:Mk:=n1 (sL 3 (sX [.str,.sl 1,.sl 2,.sl 1,.sl 2,jI] (n2 (sO 50 3 (nM 89 [])))))
abbrev mr:Mk:=n4 (sB (nM 90 []))
abbrev T3:=Bool×U1
abbrev T2:=BA×LL×LL×LL×LL×Int×U1
abbrev T1:=LL×T2×LL×U1
abbrev T0:=LL×T2×LL×LL×Int×U1
def C (k:Nat):List (Ent PG R):=[Qac.en k,Qde.en k,Qdf.en k,Qdj.en k,Qcw.en k,Qae.en k,Qag.en k,Qcs.en k]
def b0 (k:Nat) (J0:Kt R T1) (Jret:Kt R T3) (rec:Kt R T0) (x:T0) (S:LL):Option R :=
 ifB (decide (x.2.2.2.2.1<(x.1.length:Int))) (idxL x.1 x.2.2.2.2.1 fun v4=>asStr (leaf v4 0) fun s5=>idxL x.1 x.2.2.2.2.1 fun v6=>asStr (leaf v6 0) fun s7=>Qcw.fn k (x.2.2.2.1,s5,()) S fun r8 S=>Qcs.fn k (x.2.2.1,(s7,()),()) S fun r9 S=>ifB (r8.1==r9.1) (Jret (false,()) S) (rec (x.1,x.2.1,x.2.2.1,x.2.2.2.1,(IntKind.wrap .i64 (x.2.2.2.2.1+1)),()) S)) (J0 (x.1,x.2.1,x.2.2.1,()) S)
def L0 (k:Nat):Pc PG R (.loop (su Tryz.f7 607)):=mkLoop T_ok (C k) _ c1 k (.seq (.seq .auto (.cond .auto (.mask z1 .auto))) (.seq (.block (.seq (.drawn [] [0,1,2,3,4,5,7,8,9,10,11,12,13,6,14,15]) (.cond (.seq .auto (.mask mr .auto)) .auto))) .auto)) ⟨⟨tr,tr,tr⟩,⟨(drawn_an (by kernel_rfl)),⟨tr,tr⟩,tr⟩,tr⟩ (fun K=>b0 k (kX K 0 z1) (kR K mr))
def q1 (k:Nat) (Jnrm:Kt R T1) (Jret:Kt R T3) (x:T0) (S:LL):Option R :=
 rounds (b0 k Jnrm Jret) k x S
def Q1 (k:Nat):Pc PG R (su Tryz.f7 223):=mkEnd T_ok (C k) _ c1 z1 (.block (.piece (L0 k).h)) (L0 k).ok (fun x S K=>q1 k (kN K z1) (kR K mr) x S)
def q0 (k:Nat) (Jret:Kt R T3) (x:(LL×T2×LL×LL×U1)) (S:LL):Option R :=
 q1 k (fun o12 S=>Qdf.fn k (o12.2.1,()) S fun r13 S=>ifB r13.1 (Qde.fn k (()) S Jret) (Qac.fn k (o12.2.1,o12.1,()) S fun r15 S=>Qac.fn k o12.2 S fun r16 S=>ifB (r15.2.1==0) (ifB (r16.2.1==0) (Qdj.fn k (r15.1,r16.1,()) S fun r17 S=>ifB r17.1 (Qde.fn k (()) S Jret) (Jret (false,()) S)) (Jret (false,()) S)) (Jret (false,()) S))) Jret (x.1,x.2.1,x.2.2.1,x.2.2.2.1,0,()) S
def Q0 (k:Nat):Pc PG R (su Tryz.f7 63):=mkCut T_ok (C k) _ c0 (.seq (.seq .auto (.piece (Q1 k).h)) (.seq (.seq .auto (.cond (.seq .auto (.mask mr .auto)) .auto)) (.seq (.own [(3,1)]) (.seq (.own [(3,1)]) (.seq .auto (.mask mr .auto)))))) ⟨⟨tr,(Q1 k).ok⟩,⟨tr,⟨tr,tr⟩,tr⟩,tr,tr,tr,tr⟩ (fun x S K=>q0 k (kR K mr) x S)
def fn (k:Nat) (x:(T2×LL×U1)) (S:LL) (K:Kt R T3):Option R :=
 Qae.fn k x S fun r1 S=>ifB (r1.2.1 != 0) (ifB ((r1.1.length:Int)==0) (Qde.fn k (()) S K) (K (false,()) S)) (Qag.fn k x S fun r3 S=>ifB (r3.2.1 != 0) (K (false,()) S) (ifB ((IntKind.wrap .i64 ((r1.1.length:Int)+(r3.1.length:Int))) != (x.2.1.length:Int)) (K (false,()) S) (q0 k K (x.2.1,x.1,r1.1,r3.1,()) S)))
def en (k:Nat):Ent PG R:=mkFn T_ok Tryz.func7 ps rs (C k) (.seq .auto (.seq (.own [(3,1)]) (.seq (.seq .auto (.cond (.seq .auto (.mask mr .auto)) .auto)) (.seq (.own [(3,1)]) (.seq (.seq .auto (.cond (.seq .auto (.mask mr .auto)) .auto)) (.piece (Q0 k).h)))))) ⟨tr,tr,⟨tr,⟨tr,tr⟩,tr⟩,tr,⟨tr,⟨tr,tr⟩,tr⟩,(Q0 k).ok⟩ (fn k)
end G.Qdc
end Go.Lm
end
namespace Go.Lm
section
variable {R:Type}
@[simp] theorem ifB_true (a b:Option R):ifB true a b=a:=rfl
@[simp] theorem ifB_false (a b:Option R):ifB false a b=b:=rfl
theorem ifB_pos {p:Prop} [Decidable p] (h:p) (a b:Option R):ifB (decide p) a b=a:=by simp [h]
theorem ifB_neg {p:Prop} [Decidable p] (h:¬ p) (a b:Option R):ifB (decide p) a b=b:=by simp [h]
theorem rounds_succ {α:Type} (b:(α→List LV→Option R)→α→List LV→Option R) (n:Nat) (x:α) (S:List LV):rounds b (n+1) x S=b (rounds b n) x S:=rfl
def scan {β:Type} (step:Nat→Option β) (fin:β):Nat→Nat→β
 |0,_=>fin
 |d+1,i=>match step i with
  |some r=>r
  |none=>scan step fin d (i+1)
theorem rounds_scan {α:Type} {b:(α→List LV→Option R)→α→List LV→Option R} (x:Nat→α) (S:Nat→List LV) (n:Nat) (step:Nat→Option (Option R)) (fin:Option R)
  (hb:∀rec i,i<n→b rec (x i) (S i)=match step i with|some r=>r|none=>rec (x (i+1)) (S (i+1))) (he:∀rec,b rec (x n) (S n)=fin) :
  ∀(d i fuel:Nat),i+d=n→d<fuel→rounds b fuel (x i) (S i)=scan step fin d i
 |0,i,fuel,hi,hf=>by
  obtain ⟨m,rfl⟩:∃m,fuel=m+1:=⟨fuel-1,by omega⟩
  have:i=n:=by omega
  subst this
  rw [rounds_succ,he];rfl
 |d+1,i,fuel,hi,hf=>by
  obtain ⟨m,rfl⟩:∃m,fuel=m+1:=⟨fuel-1,by omega⟩
  rw [rounds_succ,hb _ i (by omega)]
  cases h:step i with
  |some r=>simp only [scan,h]
  |none=>simp only [scan,h];exact rounds_scan x S n step fin hb he d (i+1) m (by omega) (by omega)
theorem rounds_scan0 {α:Type} {b:(α→List LV→Option R)→α→List LV→Option R} (x:Nat→α) (S:List LV) (n k:Nat) (step:Nat→Option (Option R)) (fin:Option R)
  (hb:∀rec i,i<n→b rec (x i) S=match step i with|some r=>r|none=>rec (x (i+1)) S) (he:∀rec,b rec (x n) S=fin) (hk:n<k):rounds b k (x 0) S=scan step fin n 0 :=
 rounds_scan x (fun _=>S) n step fin hb he n 0 k (by omega) hk
theorem scan_congr {β:Type} {step step':Nat→Option β} {fin fin':β}:∀(d i:Nat),(∀j,i≤j→j<i+d→step j=step' j)→fin=fin'→scan step fin d i=scan step' fin' d i
 |0,_,_,h=>h
 |d+1,i,h,hf=>by
  simp only [scan]
  rw [h i (Nat.le_refl _) (by omega),scan_congr d (i+1) (fun j h1 h2=>h j (by omega) (by omega)) hf]
theorem scan_map {β γ:Type} (f:β→γ) {step:Nat→Option β} {fin:β}:∀(d i:Nat),scan (fun j=>(step j).map f) (f fin) d i=f (scan step fin d i)
 |0,_=>rfl
 |d+1,i=>by
  simp only [scan]
  cases h:step i with
  |some r=>rfl
  |none=>simp only [Option.map_none];exact scan_map f d (i+1)
theorem scan_none {β:Type} {step:Nat→Option β} {fin:β}:∀(d i:Nat),(∀j,i≤j→j<i+d→step j=none)→scan step fin d i=fin
 |0,_,_=>rfl
 |d+1,i,h=>by
  simp only [scan]
  rw [h i (Nat.le_refl _) (by omega)]
  exact scan_none d (i+1) (fun j h1 h2=>h j (by omega) (by omega))
theorem scan_some {β:Type} {step:Nat→Option β} {fin:β}:∀(d i j:Nat) (r:β),i≤j→j<i+d→(∀m,i≤m→m<j→step m=none)→step j=some r→scan step fin d i=r
 |0,_,_,_,_,_,_,_=>by omega
 |d+1,i,j,r,h1,h2,h3,h4=>by
  simp only [scan]
  by_cases e:i=j
  ·subst e;rw [h4]
  ·rw [h3 i (Nat.le_refl _) (by omega)]
   exact scan_some d (i+1) j r (by omega) (by omega) (fun m a b=>h3 m (by omega) b) h4
theorem scan_all {step:Nat→Option Bool} (hs:∀j,step j=none∨step j=some false):∀(d i:Nat),scan step true d i=true ↔ ∀j,i≤j→j<i+d→step j=none
 |0,i=>by simp [scan];intro j h1 h2;omega
 |d+1,i=>by
  simp only [scan]
  rcases hs i with h|h
  ·rw [h]
   simp only
   rw [scan_all hs d (i+1)]
   constructor
   ·intro h1 j h2 h3
    by_cases e:j=i
    ·subst e;exact h
    ·exact h1 j (by omega) (by omega)
   ·intro h1 j h2 h3;exact h1 j (by omega) (by omega)
  ·rw [h]
   simp only
   constructor
   ·intro h1;cases h1
   ·intro h1;rw [h1 i (Nat.le_refl _) (by omega)] at h;cases h
theorem wrap_id {n:Int} (h0:-9223372036854775808≤n) (h:n≤9223372036854775807):IntKind.wrap .i64 n=n:=by
 rw [IntKind.wrap_i64];omega
theorem wrap_succ {i:Nat} (h:i<9223372036854775807):IntKind.wrap .i64 ((i:Int)+1)=((i+1:Nat):Int):=by
 rw [wrap_id (by omega) (by omega)];omega
theorem wrap_pred {i:Nat} (h0:0<i) (h:i<9223372036854775807):IntKind.wrap .i64 ((i:Int)-1)=((i-1:Nat):Int):=by
 rw [wrap_id (by omega) (by omega)];omega
theorem idxL_nat {xs:List LV} {i:Nat} (h:i<xs.length) (K:LV→Option R):idxL xs (i:Int) K=K (xs.getD i .any):=by
 unfold idxL
 rw [ifB_pos ⟨by omega,by omega⟩,Int.toNat_natCast]
theorem idxStr_nat {s:ByteArray} {i:Nat} (h:i<s.size) (K:Int→Option R):idxStr s (i:Int) K=K (bt s i):=by
 unfold idxStr
 rw [ifB_pos ⟨by omega,by omega⟩]
theorem lt_nat (i n:Nat):decide ((i:Int)<(n:Int))=decide (i<n):=by simp
theorem baList (s:ByteArray):s.toList=s.data.toList:=by
 rw [ByteArray.toList_eq]
theorem strEq_iff (a b:ByteArray):strEq a b=true ↔ a=b:=by
 unfold strEq
 rw [beq_iff_eq,baList,baList]
 constructor
 ·intro h
  have:a.data=b.data:=Array.ext' h
  cases a;cases b;simp_all
 ·intro h;rw [h]
theorem strEq_dec (a b:ByteArray):strEq a b=decide (a=b):=by
 rw [Bool.eq_iff_iff,strEq_iff];simp
theorem strLt_dec (a b:ByteArray):strLt a b=decide (a.data.toList<b.data.toList):=by
 unfold strLt
 rw [baList,baList,Go.Proofs.bytesLess_eq]
theorem asStr_str (s:ByteArray) (K:ByteArray→Option R):asStr (.str s) K=K s:=rfl
theorem asBool_bool (b:Bool) (K:Bool→Option R):asBool (.bool b) K=K b:=rfl
theorem asInt_int (k:IntKind) (n:Int) (K:Int→Option R):asInt k (.int k n) K=K n:=by simp [asInt]
theorem asSl_sl (z:Nat) (xs:List LV) (K:List LV→Option R):asSl z (.sl z xs) K=K xs:=by simp [asSl]
theorem app_le {b:Nat} {ys xs:List LV} {K:List LV→Option R} (h:(ys.length+xs.length)*b≤140737488355328) (h2:ys.length+xs.length≤9223372036854775807):app b ys xs K=K (ys++xs):=by
 unfold app
 rw [ifB_pos ⟨h,h2⟩]
theorem slStr_nat {s:ByteArray} {i:Nat} (h:i≤s.size) (K:ByteArray→Option R):slStr s 0 (i:Int) K=K (s.extract 0 i):=by
 unfold slStr
 rw [ifB_pos ⟨by omega,by omega,by omega⟩];rfl
theorem bt_nat {s:ByteArray} {i:Nat} (h:i<s.size):bt s i=((s[i]'h).toNat:Int):=by
 unfold bt
 rw [Int.toNat_natCast,dif_pos h]
theorem bt_lt (s:ByteArray) (i:Int):0≤bt s i∧bt s i<256:=by
 unfold bt
 split
 ·rename_i h
  have:=(s[i.toNat]'h).toNat_lt
  omega
 ·omega
end
end Go.Lm
set_option maxRecDepth 100000
namespace Go.Lm
section
variable {R:Type}
def Many (k:Nat):Prop:=281474976710656≤k
def partB (c:Int):Bool:=(decide (c≥97)&&decide (c≤122))||((decide (c≥65)&&decide (c≤90))||((decide (c≥48)&&decide (c≤57))||((c==46)||((c==95)||((c==45)||(c==43))))))
theorem indexByte_part (c:Int) (h0:0≤c) (h1:c<256):decide (Lib.indexByte [46,95,45,43] c.toNat.toUInt8≥0)=((c==46)||((c==95)||((c==45)||(c==43)))):=by
 have key:∀n:Fin 256,decide (Lib.indexByte [46,95,45,43] (n.val.toUInt8)≥0)=(((n.val:Int)==46)||(((n.val:Int)==95)||(((n.val:Int)==45)||((n.val:Int)==43)))):=by decide +kernel
 have:=key ⟨c.toNat,by omega⟩
 rw [this]
 have e:((c.toNat:Nat):Int)=c:=by omega
 simp only [e]
theorem prog_inPart (k:Nat) (c:Int) (h0:0≤c) (h1:c<256) (S:List LV) (K:Bool×Unit→List LV→Option R):G.Qbv.fn k (c,()) S K=K (partB c,()) S:=by
 have hi:∀K':Int×Unit→List LV→Option R,G.Qdq.fn k ((bs [46,95,45,43]),c,()) S K'=K' (Lib.indexByte [46,95,45,43] c.toNat.toUInt8,()) S:=fun K'=>rfl
 unfold G.Qbv.fn partB
 dsimp only
 simp only [hi]
 rw [indexByte_part c h0 h1]
 generalize ((c==46)||((c==95)||((c==45)||(c==43))))=b7
 generalize decide (c≥97)=b1
 generalize decide (c≤122)=b2
 generalize decide (c≥65)=b3
 generalize decide (c≤90)=b4
 generalize decide (c≥48)=b5
 generalize decide (c≤57)=b6
 cases b1<;>cases b3<;>cases b5<;>(try cases b2)<;>(try cases b4)<;>(try cases b6)<;>cases b7<;>rfl
def isPartS (s:ByteArray):Bool:=scan (fun i=>match partB (bt s i) with|true=>none|false=>some false) (!(strEq s (bs []))&&(!(strEq s (bs [46]))&&!(strEq s (bs [46,46])))) s.size 0
theorem fin_part (s:ByteArray) (S:List LV) (K:Bool×Unit→List LV→Option R):ifB (!(strEq s (bs []))) (ifB (!(strEq s (bs [46]))) (K ((!(strEq s (bs [46,46]))),()) S) (K (false,()) S)) (K (false,()) S)=K (!(strEq s (bs []))&&(!(strEq s (bs [46]))&&!(strEq s (bs [46,46]))),()) S:=by
 generalize strEq s (bs [])=a
 generalize strEq s (bs [46])=b
 cases a<;>cases b<;>rfl
theorem prog_isPart {k:Nat} (hk:Many k) (s:ByteArray) (hs:s.size≤140737488355328) (S:List LV) (K:Bool×Unit→List LV→Option R):G.Qbw.fn k (s,()) S K=K (isPartS s,()) S:=by
 unfold Many at hk
 unfold G.Qbw.fn isPartS
 refine Eq.trans (rounds_scan0 (fun i=>(s,(s.size:Int),(i:Int),())) S s.size k (fun i=>match partB (bt s i) with|true=>none|false=>some (K (false,()) S)) (K (!(strEq s (bs []))&&(!(strEq s (bs [46]))&&!(strEq s (bs [46,46]))),()) S) (fun rec i hi=>?_) (fun rec=>?_) (by omega)) ?_
 ·unfold G.Qbw.b0
  dsimp only
  have hb:=bt_lt s i
  rw [lt_nat,ifB_pos hi,idxStr_nat hi,prog_inPart k _ hb.1 hb.2,wrap_succ (by omega)]
  cases partB (bt s i)<;>rfl
 ·unfold G.Qbw.b0
  dsimp only
  rw [lt_nat,ifB_neg (Nat.lt_irrefl _),fin_part]
 ·rw [←scan_map (fun b=>K (b,()) S)]
  refine scan_congr _ _ (fun j _ _=>?_) rfl
  cases partB (bt s j)<;>rfl
def partsOf (s:ByteArray):List ByteArray:=Lib.splitB (bs [47]) 0 (Lib.countB s (bs [47])) s
theorem split_at (k:Nat) (s:ByteArray) (hs:s.size<4294967281) (S:List LV) (K:List LV×Unit→List LV→Option R):G.Qdt.fn k (s,(bs [47]),()) S K=K ((partsOf s).map .str,()) S:=by
 unfold G.Qdt.fn H.genSplit.fn handF splitF
 dsimp only
 rw [decide_eq_true ⟨rfl,rfl,rfl,hs⟩]
 rfl
theorem splitB_sizes (sep:ByteArray):∀(n:Nat) (s:ByteArray) (p:ByteArray),p∈Lib.splitB sep 0 n s→p.size≤s.size
 |0,s,p,h=>by
  rw [Lib.splitB_zero] at h
  simp at h;subst h;exact Nat.le_refl _
 |n+1,s,p,h=>by
  unfold Lib.splitB at h
  split at h
  ·simp at h;subst h;exact Nat.le_refl _
  ·rcases List.mem_cons.1 h with rfl|h
   ·simp only [ByteArray.size_extract];omega
   ·refine Nat.le_trans (splitB_sizes sep n _ p h) ?_
    simp only [ByteArray.size_extract];omega
theorem splitB_len (sep:ByteArray):∀(n:Nat) (s:ByteArray),(Lib.splitB sep 0 n s).length≤n+1
 |0,s=>by rw [Lib.splitB_zero];simp
 |n+1,s=>by
  unfold Lib.splitB
  split
  ·simp
  ·have:=splitB_len sep n (s.extract ((Lib.indexB s sep).toNat+sep.size) s.size)
   simp only [List.length_cons];omega
def isPathS (s:ByteArray):Bool:=decide (1≤s.size)&&(decide (s.size≤200)&&(partsOf s).all isPartS)
theorem all_scan (l:List ByteArray):l.all isPartS=scan (fun i=>match isPartS (l.getD i (bs [])) with|true=>none|false=>some false) true l.length 0:=by
 have:∀(d i:Nat),i+d=l.length→(l.drop i).all isPartS=scan (fun i=>match isPartS (l.getD i (bs [])) with|true=>none|false=>some false) true d i:=by
  intro d
  induction d with
  |zero=>intro i hi;rw [List.drop_eq_nil_of_le (by omega)];rfl
  |succ d ih =>
   intro i hi
   have hlt:i<l.length:=by omega
   rw [List.drop_eq_getElem_cons hlt,List.all_cons]
   simp only [scan]
   rw [List.getD_eq_getElem?_getD,List.getElem?_eq_getElem hlt,Option.getD_some]
   cases isPartS l[i] with
   |true=>simp only [Bool.true_and];exact ih (i+1) (by omega)
   |false=>rfl
 simpa using this l.length 0 (by omega)
theorem map_str_get (l:List ByteArray) (i:Nat) (h:i<l.length):(l.map LV.str).getD i .any = .str (l.getD i (bs [])):=by
 simp [List.getD_eq_getElem?_getD,h]
theorem partsOf_len (s:ByteArray) (hs:s.size≤200):(partsOf s).length≤201+1:=by
 have h1:=splitB_len (bs [47]) (Lib.countB s (bs [47])) s
 have h2:=Lib.countB_le (bs [47]) (Nat.le_refl 1) s.size s (Nat.le_refl _)
 unfold partsOf
 omega
theorem partsOf_size (s:ByteArray) (i:Nat) (h:i<(partsOf s).length):((partsOf s).getD i (bs [])).size≤s.size:=by
 refine splitB_sizes (bs [47]) (Lib.countB s (bs [47])) s _ ?_
 rw [List.getD_eq_getElem?_getD,List.getElem?_eq_getElem h]
 exact List.getElem_mem h
theorem prog_IsPath {k:Nat} (hk:Many k) (s:ByteArray) (S:List LV) (K:Bool×Unit→List LV→Option R):G.Qbq.fn k (s,()) S K=K (isPathS s,()) S:=by
 have hk':=hk
 unfold Many at hk'
 unfold G.Qbq.fn isPathS
 dsimp only
 by_cases h1:1≤s.size
 ·rw [ifB_neg (show ¬ (s.size:Int)<1 by omega),decide_eq_true h1]
  by_cases h2:s.size≤200
  ·rw [ifB_neg (show ¬ (s.size:Int)>200 by omega),decide_eq_true h2]
   simp only [Bool.true_and]
   have hl:=partsOf_len s h2
   rw [split_at k s (by omega)]
   dsimp only
   rw [List.length_map]
   refine Eq.trans (rounds_scan0 (fun i=>((partsOf s).map LV.str,((partsOf s).length:Int),(i:Int),())) S (partsOf s).length k (fun i=>match isPartS ((partsOf s).getD i (bs [])) with|true=>none|false=>some (K (false,()) S)) (K (true,()) S) (fun rec i hi=>?_) (fun rec=>?_) (by omega)) ?_
   ·unfold G.Qbq.b0
    dsimp only
    have hsz:=partsOf_size s i hi
    rw [lt_nat,ifB_pos hi,idxL_nat (by simpa using hi),map_str_get _ _ hi]
    show asStr (.str _) _=_
    rw [asStr_str,prog_isPart hk _ (by omega),wrap_succ (by omega)]
    cases isPartS ((partsOf s).getD i (bs []))<;>rfl
   ·unfold G.Qbq.b0
    dsimp only
    rw [lt_nat,ifB_neg (Nat.lt_irrefl _)]
   ·rw [all_scan,←scan_map (fun b=>K (b,()) S)]
    refine scan_congr _ _ (fun j _ _=>?_) rfl
    cases isPartS ((partsOf s).getD j (bs []))<;>rfl
  ·rw [ifB_pos (show (s.size:Int)>200 by omega),decide_eq_false h2]
   simp
 ·rw [ifB_pos (show (s.size:Int)<1 by omega),decide_eq_false h1]
  simp
end
end Go.Lm
set_option maxRecDepth 100000
namespace Go.Lm
section
variable {R:Type}
def hexB (c:Int):Bool:=(decide (c≥48)&&decide (c≤57))||(decide (c≥97)&&decide (c≤102))
theorem ba_len (s:ByteArray):s.data.toList.length=s.size:=by rw [Array.length_toList];rfl
def isDigestS (s:ByteArray):Bool:=s.data.toList.all (fun b=>hexB (b.toNat:Int))&&((s.size:Int)==16)
theorem dropWhile_nil {α:Type} (p:α→Bool):∀(l:List α),l.dropWhile p=[] ↔ ∀x,x∈l→p x=true
 |[]=>by simp
 |x::l=>by
  rw [List.dropWhile_cons]
  cases h:p x with
  |true=>simp [h,dropWhile_nil p l]
  |false=>simp [h]
theorem dropWhile_head {α:Type} (p:α→Bool):∀(l:List α) (x:α) (xs:List α),l.dropWhile p=x::xs→p x=false
 |[],x,xs,h=>by simp at h
 |y::l,x,xs,h=>by
  rw [List.dropWhile_cons] at h
  cases hy:p y with
  |true=>rw [hy] at h;exact dropWhile_head p l x xs (by simpa using h)
  |false=>rw [hy] at h;simp at h;rw [←h.1];exact hy
theorem trim_nil (l cs:List UInt8):Lib.trimS l cs=[] ↔ l.all (fun b=>cs.contains b)=true:=by
 unfold Lib.trimS Lib.trimLeftS
 rw [dropWhile_nil]
 constructor
 ·intro h
  have hr:Lib.trimRightS l cs=[]:=by
   unfold Lib.trimRightS at h ⊢
   cases hd:l.reverse.dropWhile (cs.contains ·) with
   |nil=>rfl
   |cons x xs =>
    exfalso
    have h1:=h x (by rw [hd];simp)
    have h2:=dropWhile_head _ _ _ _ hd
    rw [h1] at h2;cases h2
  unfold Lib.trimRightS at hr
  have hr':l.reverse.dropWhile (cs.contains ·)=[]:=by simpa using hr
  rw [dropWhile_nil] at hr'
  rw [List.all_eq_true]
  intro x hx
  exact hr' x (by simpa using hx)
 ·intro h x hx
  rw [List.all_eq_true] at h
  unfold Lib.trimRightS at hx
  exact h x (by
   have:=List.mem_reverse.1 hx
   have:=(List.dropWhile_sublist _).subset this
   simpa using this)
theorem prog_IsDigest {k:Nat} (s:ByteArray) (S:List LV) (K:Bool×Unit→List LV→Option R):G.Qbp.fn k (s,()) S K=K (isDigestS s,()) S:=by
 unfold G.Qbp.fn isDigestS
 dsimp only
 cases hz:((s.size:Int)==16) with
 |false=>simp
 |true =>
  have h16:s.size=16:=by have:=beq_iff_eq.1 hz;omega
  rw [ifB_true,Bool.and_true]
  unfold H.Trim.fn handF trimF
  dsimp only
  have:(decide (s.size≤9223372036854775807)&&decide ((bs [48,49,50,51,52,53,54,55,56,57,97,98,99,100,101,102]).size<4294967281)&&(bs [48,49,50,51,52,53,54,55,56,57,97,98,99,100,101,102]).data.toList.all (fun b=>decide (b.toNat<128)))=true:=by
   rw [decide_eq_true (by omega)];decide +kernel
  rw [this]
  dsimp only
  congr 2
  rw [Bool.eq_iff_iff,strEq_iff]
  constructor
  ·intro h
   have h2:Lib.trimS s.data.toList (bs [48,49,50,51,52,53,54,55,56,57,97,98,99,100,101,102]).data.toList=[]:=by
    have:=congrArg (fun b:ByteArray=>b.data.toList) h
    simpa [bs] using this
   rw [trim_nil] at h2
   rw [List.all_eq_true] at h2 ⊢
   intro b hb
   have h3:=h2 b hb
   have key:∀n:Fin 256,(bs [48,49,50,51,52,53,54,55,56,57,97,98,99,100,101,102]).data.toList.contains (n.val.toUInt8)=true→hexB (n.val:Int)=true:=by decide +kernel
   have:=key ⟨b.toNat,b.toNat_lt⟩
   simp only [Nat.toUInt8,UInt8.ofNat_toNat] at this
   exact this h3
  ·intro h
   have h2:Lib.trimS s.data.toList (bs [48,49,50,51,52,53,54,55,56,57,97,98,99,100,101,102]).data.toList=[]:=by
    rw [trim_nil,List.all_eq_true]
    rw [List.all_eq_true] at h
    intro b hb
    have h3:=h b hb
    have key:∀n:Fin 256,hexB (n.val:Int)=true→(bs [48,49,50,51,52,53,54,55,56,57,97,98,99,100,101,102]).data.toList.contains (n.val.toUInt8)=true:=by decide +kernel
    have:=key ⟨b.toNat,b.toNat_lt⟩
    simp only [Nat.toUInt8,UInt8.ofNat_toNat] at this
    exact this h3
   rw [h2];rfl
structure Look where
 p:ByteArray
 d:ByteArray
 r:Bool
def Look.lv (x:Look):LV:=.agg [.str x.p,.str x.d,.bool x.r]
def lookS (l:List Look) (i:Nat):Option Int :=
 let x:=l.getD i ⟨bs [],bs [],false⟩
 match !(isPathS x.p) with
 |true=>some 3
 |false=>match (!(strEq x.d (bs []))&&!(isDigestS x.d))||(strEq x.d (bs [])&&x.r) with
  |true=>some 3
  |false=>match decide (0<i)&&(strLt x.p (l.getD (i-1) ⟨bs [],bs [],false⟩).p||strEq x.p (l.getD (i-1) ⟨bs [],bs [],false⟩).p) with
   |true=>some 8
   |false=>none
def checkLooksS (l:List Look):Int:=match decide (l.length>4000) with
 |true=>2
 |false=>scan (lookS l) 0 l.length 0
theorem look_get (l:List Look) (i:Nat) (h:i<l.length):(l.map Look.lv).getD i .any=(l.getD i ⟨bs [],bs [],false⟩).lv:=by
 simp [List.getD_eq_getElem?_getD,h]
theorem Look.mat (x:Look) (K:List LV→Option R):mat 3 x.lv K=K [.str x.p,.str x.d,.bool x.r]:=rfl
theorem gt_nat (i n:Nat):decide ((i:Int)>(n:Int))=decide (i>n):=by simp
theorem prog_CheckLooks {k:Nat} (hk:Many k) (l:List Look) (S:List LV) (K:Int×Unit→List LV→Option R):G.Qab.fn k (l.map Look.lv,()) S K=K (checkLooksS l,()) S:=by
 have hk':=hk
 unfold Many at hk'
 unfold G.Qab.fn checkLooksS
 dsimp only
 rw [List.length_map,show ((4000:Int))=((4000:Nat):Int) from rfl,gt_nat]
 cases hc:decide (l.length>4000) with
 |true=>rfl
 |false =>
  have hlen:l.length≤4000:=by have:=of_decide_eq_false hc;omega
  rw [ifB_false]
  dsimp only
  rw [←scan_map (fun n=>K (n,()) S)]
  refine rounds_scan0 (fun i=>(l.map Look.lv,l.map Look.lv,(l.length:Int),(i:Int),())) S l.length k _ _ (fun rec i hi=>?_) (fun rec=>?_) (by omega)
  ·unfold G.Qab.b0 G.Qab.q0 G.Qab.q1
   dsimp only
   rw [lt_nat,ifB_pos hi,idxL_nat (by simpa using hi),look_get _ _ hi]
   rw [Look.mat]
   simp only [List.getD_cons_zero,List.getD_cons_succ,asStr_str,asBool_bool]
   rw [prog_IsPath hk]
   dsimp only
   have hprev:∀(h0:0<i) (K':LV→Option R),idxL (l.map Look.lv) (IntKind.wrap .i64 ((i:Int)-1)) K'=K' (l.getD (i-1) ⟨bs [],bs [],false⟩).lv:=fun h0 K'=>by
    rw [wrap_pred h0 (by omega),idxL_nat (by simp;omega),look_get _ _ (by omega)]
   have htail:∀(J:Option R),ifB (decide ((i:Int)>0)) (idxL (l.map Look.lv) (IntKind.wrap .i64 ((i:Int)-1)) fun v8=>asStr (leaf v8 0) fun s9=>ifB (strLt (l.getD i ⟨bs [],bs [],false⟩).p s9||strEq (l.getD i ⟨bs [],bs [],false⟩).p s9) (K (8,()) S) J) J =
     match decide (0<i)&&(strLt (l.getD i ⟨bs [],bs [],false⟩).p (l.getD (i-1) ⟨bs [],bs [],false⟩).p||strEq (l.getD i ⟨bs [],bs [],false⟩).p (l.getD (i-1) ⟨bs [],bs [],false⟩).p) with|true=>K (8,()) S|false=>J:=fun J=>by
    by_cases h0:0<i
    ·rw [ifB_pos (show (i:Int)>0 by omega),hprev h0,decide_eq_true h0]
     show ifB _ _ _=_
     simp only [Bool.true_and]
     cases (strLt (l.getD i ⟨bs [],bs [],false⟩).p (l.getD (i-1) ⟨bs [],bs [],false⟩).p||strEq (l.getD i ⟨bs [],bs [],false⟩).p (l.getD (i-1) ⟨bs [],bs [],false⟩).p)<;>rfl
    ·rw [ifB_neg (show ¬ (i:Int)>0 by omega),decide_eq_false h0];rfl
   have hwrap:=wrap_succ (show i<9223372036854775807 by omega)
   have hdig:=fun (K':Bool×Unit→List LV→Option R)=>prog_IsDigest (k:=k) (l.getD i ⟨bs [],bs [],false⟩).d S K'
   simp only [hdig,hwrap,htail]
   unfold lookS
   dsimp only
   generalize (decide (0<i)&&(strLt (l.getD i ⟨bs [],bs [],false⟩).p (l.getD (i-1) ⟨bs [],bs [],false⟩).p||strEq (l.getD i ⟨bs [],bs [],false⟩).p (l.getD (i-1) ⟨bs [],bs [],false⟩).p))=b5
   generalize isPathS (l.getD i ⟨bs [],bs [],false⟩).p=b1
   generalize strEq (l.getD i ⟨bs [],bs [],false⟩).d (bs [])=b2
   generalize isDigestS (l.getD i ⟨bs [],bs [],false⟩).d=b3
   generalize (l.getD i ⟨bs [],bs [],false⟩).r=b4
   cases b1<;>cases b2<;>cases b3<;>cases b4<;>cases b5<;>rfl
  ·unfold G.Qab.b0
   dsimp only
   rw [lt_nat,ifB_neg (Nat.lt_irrefl _)]
end
end Go.Lm
