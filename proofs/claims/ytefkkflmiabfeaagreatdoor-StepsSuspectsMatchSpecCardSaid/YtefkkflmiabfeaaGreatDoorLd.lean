/- Parts of the proof: LmX, LmS, LmU. -/
import Derived.Test.YtefkkflmiabfeaaGreatDoorLc
import Derived.Sort.Walk0
import Derived.Laws.Closers25b
set_option linter.unusedVariables false
set_option linter.unusedSimpArgs false
set_option maxRecDepth 100000
set_option linter.unusedVariables false
noncomputable section
namespace Go.Lm
open Go.Proofs
variable {R : Type}
namespace G.slices_Clone_s_string_string
abbrev ps : Mk := sL 1 []
abbrev rs : Mk := sO 9 1 []
abbrev mr : Mk := n2 (sO 9 1 (n5 []))
def C (k : Nat) : List (Ent PG R) := []
def fn (k : Nat) (x : (LL × U1)) (S : LL) (K : Kt R (LL × U1)) : Option R :=
 isNil (.sl 1 x.1) fun b1 => ifB (b1 == true) (K ([],()) S) (app 16 [] x.1 fun l2 => K (l2,()) S)
def en (k : Nat) : Ent PG R := mkFn T_ok Tryz.func17 ps rs (C k) (.seq .auto (.seq (.seq .auto (.cond (.seq .auto (.mask mr .auto)) .auto)) (.seq .auto (.mask mr .auto)))) ⟨tr,⟨tr,⟨tr,tr⟩,tr⟩,tr,tr⟩ (fn k)
def anC : An R := .seq .auto (.seq (.seq .auto (.cond (.seq .auto (.mask mr .auto)) .auto)) (.seq .auto (.mask mr .auto)))
theorem body : HSound PG 17 (lbody T (entC (C (R := R) 0)) anC Tryz.f17) :=
 lbody_ok T_ok (entC_ok _) (fun c hc => by
  have : c = cd Tryz.f17 := by
   have e : Tryz.f17.body = some (cd Tryz.f17) := by kernel_rfl
   rw [e] at hc; cases hc; rfl
  subst this
  exact ⟨tr,⟨tr,⟨tr,tr⟩,tr⟩,tr,tr⟩) Tryz.func17 (enters_ok Tryz.func17 (by kernel_rfl) (by kernel_rfl))
end G.slices_Clone_s_string_string
namespace G.slices_Clone_s_string_string_c
abbrev ps : Mk := [some (.lf (.sl 1))]
abbrev rs : Mk := [some (.lf (.own 9 1))]
def fn (_k : Nat) (x : LL × U1) (S : LL) (K : Kt R (LL × U1)) : Option R := handF ps rs (cloneF 16) x S K
theorem ok (k : Nat) : HSound PG 17 (hT (R := R) ps fun x S K => fn k x S fun r S => K (resE rs r) S) :=
 hand_ok (enters_ok Tryz.func17 (by kernel_rfl) (by kernel_rfl)) (ps := ps) (rs := rs) (g := cloneF 16) fun x r S hr => by
  obtain ⟨xs,u⟩ := x
  obtain ⟨rfl,hd⟩ := cloneF_some hr
  refine LCalls.nilCases (fun h => ?_) ?_
  ·have h : xs = [] := h
   subst h
   exact slices_Clone_s_string_string.body.calls (by kernel_rfl)
  ·exact slices_Clone_s_string_string.body.calls (Eq.trans (b := app 16 [] xs fun l => some (.own 9 1 l,S)) (by kernel_rfl) (by rw [app_at hd]; rfl))
def en (k : Nat) : Ent PG R := ⟨17,_,ok k⟩
end G.slices_Clone_s_string_string_c
namespace G.slices_Clone_s_api_Var_api_Var
abbrev ps : Mk := sL 2 []
abbrev rs : Mk := sO 107 2 []
abbrev mr : Mk := n2 (sO 107 2 (n5 []))
def C (k : Nat) : List (Ent PG R) := []
def fn (k : Nat) (x : (LL × U1)) (S : LL) (K : Kt R (LL × U1)) : Option R :=
 isNil (.sl 2 x.1) fun b1 => ifB (b1 == true) (K ([],()) S) (app 32 [] x.1 fun l2 => K (l2,()) S)
def en (k : Nat) : Ent PG R := mkFn T_ok Tryz.func59 ps rs (C k) (.seq .auto (.seq (.seq .auto (.cond (.seq .auto (.mask mr .auto)) .auto)) (.seq .auto (.mask mr .auto)))) ⟨tr,⟨tr,⟨tr,tr⟩,tr⟩,tr,tr⟩ (fn k)
def anC : An R := .seq .auto (.seq (.seq .auto (.cond (.seq .auto (.mask mr .auto)) .auto)) (.seq .auto (.mask mr .auto)))
theorem body : HSound PG 59 (lbody T (entC (C (R := R) 0)) anC Tryz.f59) :=
 lbody_ok T_ok (entC_ok _) (fun c hc => by
  have : c = cd Tryz.f59 := by
   have e : Tryz.f59.body = some (cd Tryz.f59) := by kernel_rfl
   rw [e] at hc; cases hc; rfl
  subst this
  exact ⟨tr,⟨tr,⟨tr,tr⟩,tr⟩,tr,tr⟩) Tryz.func59 (enters_ok Tryz.func59 (by kernel_rfl) (by kernel_rfl))
end G.slices_Clone_s_api_Var_api_Var
namespace G.slices_Clone_s_api_Var_api_Var_c
abbrev ps : Mk := [some (.lf (.sl 2))]
abbrev rs : Mk := [some (.lf (.own 107 2))]
def fn (_k : Nat) (x : LL × U1) (S : LL) (K : Kt R (LL × U1)) : Option R := handF ps rs (cloneF 32) x S K
theorem ok (k : Nat) : HSound PG 59 (hT (R := R) ps fun x S K => fn k x S fun r S => K (resE rs r) S) :=
 hand_ok (enters_ok Tryz.func59 (by kernel_rfl) (by kernel_rfl)) (ps := ps) (rs := rs) (g := cloneF 32) fun x r S hr => by
  obtain ⟨xs,u⟩ := x
  obtain ⟨rfl,hd⟩ := cloneF_some hr
  refine LCalls.nilCases (fun h => ?_) ?_
  ·have h : xs = [] := h
   subst h
   exact slices_Clone_s_api_Var_api_Var.body.calls (by kernel_rfl)
  ·exact slices_Clone_s_api_Var_api_Var.body.calls (Eq.trans (b := app 32 [] xs fun l => some (.own 107 2 l,S)) (by kernel_rfl) (by rw [app_at hd]; rfl))
def en (k : Nat) : Ent PG R := ⟨59,_,ok k⟩
end G.slices_Clone_s_api_Var_api_Var_c
namespace G.smithyardref5_CopyAction
abbrev ps : Mk := sA [.str,.sl 1,.sl 2,.sl 1,.sl 2,jI] []
abbrev rs : Mk := sA [.str,.sl 1,.sl 2,.sl 1,.sl 2,jI] []
abbrev e0 : Mk := n1 (sX [.str,.sl 1,.sl 2,.sl 1,.sl 2,jI] (sX [.str,.own 23 1,.own 107 2,.own 9 1,.own 107 2,jI] (sO 23 1 (nM 32 []))))
abbrev m0 : Mk := n1 (sX [.str,.sl 1,.sl 2,.sl 1,.sl 2,jI] (sX [.str,.own 23 1,.own 107 2,.own 9 1,.own 107 2,jI] (sO 23 1 (sI (nM 31 [])))))
abbrev mr : Mk := n2 (sX [.str,.sl 1,.sl 2,.sl 1,.sl 2,jI] (nM 33 []))
abbrev T2 := BA × LL × LL × LL × LL × Int × U1
abbrev T1 := T2 × U1
abbrev T0 := T2 × T2 × LL × Int × U1
def C (k : Nat) : List (Ent PG R) := [slices_Clone_s_string_string_c.en k,slices_Clone_s_api_Var_api_Var_c.en k]
def b0 (k : Nat) (J0 : Kt R (T2 × T2 × LL × U1)) (rec : Kt R T0) (x : T0) (S : LL) : Option R :=
 ifB (decide (x.2.2.2.1 < (x.1.2.1.length : Int))) (idxL x.1.2.1 x.2.2.2.1 fun v1 => asSl 1 (leaf v1 0) fun l2 => slices_Clone_s_string_string_c.fn k (l2,()) S fun r3 S => app 24 x.2.2.1 [(.sl 1 r3.1)] fun l4 => rec (x.1,x.2.1,l4,(IntKind.wrap .i64 (x.2.2.2.1 + 1)),()) S) (J0 (x.1,x.2.1,x.2.2.1,()) S)
def L0 (k : Nat) : Pc PG R (.loop (su Tryz.f28 75)) := mkLoop T_ok (C k) _ m0 k (.seq (.seq .auto (.cond .auto (.mask e0 .auto))) (.seq (.block (.own [(0,1)])) .auto)) ⟨⟨tr,tr,tr⟩,tr,tr⟩ (fun K => b0 k (kX K 0 e0))
def fn (k : Nat) (x : T1) (S : LL) (K : Kt R T1) : Option R :=
 rounds (b0 k (fun o5 S => slices_Clone_s_api_Var_api_Var_c.fn k (o5.1.2.2.1,()) S fun r6 S => slices_Clone_s_api_Var_api_Var_c.fn k (o5.1.2.2.2.2.1,()) S fun r7 S => slices_Clone_s_string_string_c.fn k (o5.1.2.2.2.1,()) S fun r8 S => K ((o5.1.1,o5.2.2.1,r6.1,r8.1,r7.1,o5.1.2.2.2.2.2),()) S)) k (x.1,((bs []),[],[],[],[],0,()),[],0,()) S
def en (k : Nat) : Ent PG R := mkFn T_ok Tryz.func28 ps rs (C k) (.seq .auto (.seq .auto (.seq (.seq .auto (.block (.piece (L0 k).h))) (.seq (.drawn [] [0,1,2,4,5,7,8,10,3,6,9,11,12,13,14,15,16,17]) (.seq .auto (.mask mr .auto)))))) ⟨tr,tr,⟨tr,(L0 k).ok⟩,(drawn_an (by kernel_rfl)),tr,tr⟩ (fn k)
end G.smithyardref5_CopyAction
namespace G.smithyardref6_CopyRules
abbrev ps : Mk := sL 8 []
abbrev rs : Mk := sO 53 8 []
abbrev c0 : Mk := sL 8 (n2 (sO 53 8 (sI (nM 28 []))))
abbrev e0 : Mk := n3 (sO 53 8 (nM 29 []))
abbrev mr : Mk := n2 (sO 53 8 (nM 30 []))
abbrev T0 := LL × LL × Int × U1
def C (k : Nat) : List (Ent PG R) := [slices_Clone_s_string_string_c.en k,smithyardref5_CopyAction.en k]
def q0 (k : Nat) (Jnrm : Kt R T0)  (x : T0) (S : LL) : Option R :=
 Jnrm (x.1,x.2.1,(IntKind.wrap .i64 (x.2.2.1 + 1)),()) S
def Q0 (k : Nat) : Pc PG R (su Tryz.f11 459) := mkEnd T_ok (C k) _ c0 c0 (.auto) tr (fun x S K => q0 k (kN K c0) x S)
def b0 (k : Nat) (J0 : Kt R (LL × U1)) (rec : Kt R T0) (x : T0) (S : LL) : Option R :=
 ifB (decide (x.2.2.1 < (x.1.length : Int))) (idxL x.1 x.2.2.1 fun v1 => asStr (leaf v1 0) fun s2 => idxL x.1 x.2.2.1 fun v3 => mat 8 v3 fun c4 => asStr (c4.getD 1 .any) fun s5 => asSl 1 (c4.getD 2 .any) fun l6 => asSl 2 (c4.getD 3 .any) fun l7 => asSl 1 (c4.getD 4 .any) fun l8 => asSl 2 (c4.getD 5 .any) fun l9 => asInt .i64 (c4.getD 6 .any) fun n10 => idxL x.1 x.2.2.1 fun v11 => asSl 1 (leaf v11 7) fun l12 => smithyardref5_CopyAction.fn k ((s5,l6,l7,l8,l9,n10,()),()) S fun r13 S => slices_Clone_s_string_string_c.fn k (l12,()) S fun r14 S => app 160 x.2.1 [(.agg [(.str s2),(.str r13.1.1),(.sl 1 r13.1.2.1),(.sl 2 r13.1.2.2.1),(.sl 1 r13.1.2.2.2.1),(.sl 2 r13.1.2.2.2.2.1),(.int .i64 r13.1.2.2.2.2.2.1),(.sl 1 r14.1)])] fun l15 => q0 k rec (x.1,l15,x.2.2) S) (J0 (x.2.1,()) S)
def L0 (k : Nat) : Pc PG R (.loop (su Tryz.f11 75)) := mkLoop T_ok (C k) _ c0 k (.seq (.seq .auto (.cond .auto (.mask e0 .auto))) (.seq (.block (.drawn [(0,1)] [0,1,2,3,4,5,6,7,8,9,10,12,13,14,15,16,11,17,18,19,20,21])) (.piece (Q0 k).h))) ⟨⟨tr,tr,tr⟩,(drawn_an (by kernel_rfl)),(Q0 k).ok⟩ (fun K => b0 k (kX K 0 e0))
def fn (k : Nat) (x : (LL × U1)) (S : LL) (K : Kt R (LL × U1)) : Option R :=
 rounds (b0 k K) k (x.1,[],0,()) S
def en (k : Nat) : Ent PG R := mkFn T_ok Tryz.func11 ps rs (C k) (.seq .auto (.seq .auto (.seq (.seq .auto (.block (.piece (L0 k).h))) (.seq (.own [(0,1)]) (.mask mr .auto))))) ⟨tr,tr,⟨tr,(L0 k).ok⟩,tr,tr⟩ (fn k)
end G.smithyardref6_CopyRules
namespace G.strings_Split
abbrev ps : Mk := sS (sS [])
abbrev rs : Mk := sL 1 []
abbrev mr : Mk := n4 (sL 1 (n3 []))
def C (k : Nat) : List (Ent PG R) := [⟨99,H.genSplit.h k,H.genSplit.ok k⟩]
def fn (k : Nat) (x : (BA × BA × U1)) (S : LL) (K : Kt R (LL × U1)) : Option R :=
 H.genSplit.fn k (x.1,x.2.1,0,(-1 : Int),()) S K
def en (k : Nat) : Ent PG R := mkFn T_ok Tryz.func65 ps rs (C k) (.seq .auto (.seq .auto (.mask mr .auto))) ⟨tr,tr,tr⟩ (fn k)
end G.strings_Split
namespace G.strings_IndexByte
abbrev ps : Mk := sS (sh (.lf (.int .u8)) [])
abbrev rs : Mk := sI []
abbrev mr : Mk := n4 (sI (n3 []))
def C (k : Nat) : List (Ent PG R) := [⟨185,H.IndexByte.h k,H.IndexByte.ok k⟩]
def fn (k : Nat) (x : (BA × Int × U1)) (S : LL) (K : Kt R (Int × U1)) : Option R :=
 H.IndexByte.fn k x S K
def en (k : Nat) : Ent PG R := mkFn T_ok Tryz.func134 ps rs (C k) (.seq .auto (.seq .auto (.mask mr .auto))) ⟨tr,tr,tr⟩ (fn k)
end G.strings_IndexByte
namespace G.blob_inPart
abbrev ps : Mk := sh (.lf (.int .u8)) []
abbrev rs : Mk := sB []
abbrev mr : Mk := n2 (sB (nM 27 []))
def C (k : Nat) : List (Ent PG R) := [strings_IndexByte.en k]
def fn (k : Nat) (x : (Int × U1)) (S : LL) (K : Kt R (Bool × U1)) : Option R :=
 ifB (decide (x.1 ≥ 97)) (ifB (decide (x.1 ≤ 122)) (K (true,()) S) (ifB (decide (x.1 ≥ 65)) (ifB (decide (x.1 ≤ 90)) (K (true,()) S) (ifB (decide (x.1 ≥ 48)) (ifB (decide (x.1 ≤ 57)) (K (true,()) S) (strings_IndexByte.fn k ((bs [46,95,45,43]),x) S fun r1 S => K ((decide (r1.1 ≥ 0)),()) S)) (strings_IndexByte.fn k ((bs [46,95,45,43]),x) S fun r2 S => K ((decide (r2.1 ≥ 0)),()) S))) (ifB (decide (x.1 ≥ 48)) (ifB (decide (x.1 ≤ 57)) (K (true,()) S) (strings_IndexByte.fn k ((bs [46,95,45,43]),x) S fun r3 S => K ((decide (r3.1 ≥ 0)),()) S)) (strings_IndexByte.fn k ((bs [46,95,45,43]),x) S fun r4 S => K ((decide (r4.1 ≥ 0)),()) S)))) (ifB (decide (x.1 ≥ 65)) (ifB (decide (x.1 ≤ 90)) (K (true,()) S) (ifB (decide (x.1 ≥ 48)) (ifB (decide (x.1 ≤ 57)) (K (true,()) S) (strings_IndexByte.fn k ((bs [46,95,45,43]),x) S fun r5 S => K ((decide (r5.1 ≥ 0)),()) S)) (strings_IndexByte.fn k ((bs [46,95,45,43]),x) S fun r6 S => K ((decide (r6.1 ≥ 0)),()) S))) (ifB (decide (x.1 ≥ 48)) (ifB (decide (x.1 ≤ 57)) (K (true,()) S) (strings_IndexByte.fn k ((bs [46,95,45,43]),x) S fun r7 S => K ((decide (r7.1 ≥ 0)),()) S)) (strings_IndexByte.fn k ((bs [46,95,45,43]),x) S fun r8 S => K ((decide (r8.1 ≥ 0)),()) S)))
def en (k : Nat) : Ent PG R := mkFn T_ok Tryz.func100 ps rs (C k) (.seq .auto (.seq .auto (.mask mr .auto))) ⟨tr,tr,tr⟩ (fn k)
end G.blob_inPart
namespace G.blob_isPart
abbrev ps : Mk := sS []
abbrev rs : Mk := sB []
abbrev e0 : Mk := sS (nM 24 [])
abbrev m0 : Mk := sS (n4 (sI (sI (nM 18 []))))
abbrev mr : Mk := n2 (sB (nM 22 []))
abbrev T0 := BA × Int × Int × U1
def C (k : Nat) : List (Ent PG R) := [blob_inPart.en k]
def b0 (k : Nat) (J0 : Kt R (BA × U1)) (Jret : Kt R (Bool × U1)) (rec : Kt R T0) (x : T0) (S : LL) : Option R :=
 ifB (decide (x.2.2.1 < x.2.1)) (idxStr x.1 x.2.2.1 fun c1 => blob_inPart.fn k (c1,()) S fun r2 S => ifB (!r2.1) (Jret (false,()) S) (rec (x.1,x.2.1,(IntKind.wrap .i64 (x.2.2.1 + 1)),()) S)) (J0 (x.1,()) S)
def L0 (k : Nat) : Pc PG R (.loop (su Tryz.f66 37)) := mkLoop T_ok (C k) _ m0 k (.seq .auto (.seq (.cond .auto (.mask e0 .auto)) (.seq (.block (.seq .auto (.seq .auto (.cond (.seq .auto (.mask mr .auto)) .auto)))) .auto))) ⟨tr,⟨tr,tr⟩,⟨tr,tr,⟨tr,tr⟩,tr⟩,tr⟩ (fun K => b0 k (kX K 0 e0) (kR K mr))
def fn (k : Nat) (x : (BA × U1)) (S : LL) (K : Kt R (Bool × U1)) : Option R :=
 rounds (b0 k (fun o3 S => ifB (!(strEq o3.1 (bs []))) (ifB (!(strEq o3.1 (bs [46]))) (K ((!(strEq o3.1 (bs [46,46]))),()) S) (K (false,()) S)) (K (false,()) S)) K) k (x.1,(x.1.size : Int),0,()) S
def en (k : Nat) : Ent PG R := mkFn T_ok Tryz.func66 ps rs (C k) (.seq .auto (.seq (.seq .auto (.block (.piece (L0 k).h))) (.seq .auto (.mask mr .auto)))) ⟨tr,⟨tr,(L0 k).ok⟩,tr,tr⟩ (fn k)
end G.blob_isPart
namespace G.blob_IsPath
abbrev ps : Mk := sS []
abbrev rs : Mk := sB []
abbrev e0 : Mk := nM 24 []
abbrev m0 : Mk := nM 14 (sL 1 (sI (sI (n7 []))))
abbrev mr : Mk := n2 (sB (nM 21 []))
abbrev T0 := LL × Int × Int × U1
def C (k : Nat) : List (Ent PG R) := [strings_Split.en k,blob_isPart.en k]
def b0 (k : Nat) (J0 : Kt R (U1)) (Jret : Kt R (Bool × U1)) (rec : Kt R T0) (x : T0) (S : LL) : Option R :=
 ifB (decide (x.2.2.1 < x.2.1)) (idxL x.1 x.2.2.1 fun v2 => asStr (leaf v2 0) fun s3 => blob_isPart.fn k (s3,()) S fun r4 S => ifB (!r4.1) (Jret (false,()) S) (rec (x.1,x.2.1,(IntKind.wrap .i64 (x.2.2.1 + 1)),()) S)) (J0 (()) S)
def L0 (k : Nat) : Pc PG R (.loop (su Tryz.f35 75)) := mkLoop T_ok (C k) _ m0 k (.seq .auto (.seq (.cond .auto (.mask e0 .auto)) (.seq (.block (.seq .auto (.seq .auto (.cond (.seq .auto (.mask mr .auto)) .auto)))) .auto))) ⟨tr,⟨tr,tr⟩,⟨tr,tr,⟨tr,tr⟩,tr⟩,tr⟩ (fun K => b0 k (kX K 0 e0) (kR K mr))
def fn (k : Nat) (x : (BA × U1)) (S : LL) (K : Kt R (Bool × U1)) : Option R :=
 ifB (decide ((x.1.size : Int) < 1)) (K (false,()) S) (ifB (decide ((x.1.size : Int) > 200)) (K (false,()) S) (strings_Split.fn k (x.1,(bs [47]),()) S fun r1 S => rounds (b0 k (fun o5 S => K (true,()) S) K) k (r1.1,(r1.1.length : Int),0,()) S))
def en (k : Nat) : Ent PG R := mkFn T_ok Tryz.func35 ps rs (C k) (.seq .auto (.seq (.seq .auto (.cond (.seq .auto (.mask mr .auto)) .auto)) (.seq (.seq .auto (.block (.piece (L0 k).h))) (.seq .auto (.mask mr .auto))))) ⟨tr,⟨tr,⟨tr,tr⟩,tr⟩,⟨tr,(L0 k).ok⟩,tr,tr⟩ (fn k)
end G.blob_IsPath
namespace G.blob_IsDigest
abbrev ps : Mk := sS []
abbrev rs : Mk := sB []
abbrev mr : Mk := n2 (sB (n8 []))
def C (k : Nat) : List (Ent PG R) := [⟨109,H.Trim.h k,H.Trim.ok k⟩]
def fn (k : Nat) (x : (BA × U1)) (S : LL) (K : Kt R (Bool × U1)) : Option R :=
 ifB ((x.1.size : Int) == 16) (H.Trim.fn k (x.1,(bs [48,49,50,51,52,53,54,55,56,57,97,98,99,100,101,102]),()) S fun r1 S => K ((strEq r1.1 (bs [])),()) S) (K (false,()) S)
def en (k : Nat) : Ent PG R := mkFn T_ok Tryz.func83 ps rs (C k) (.seq .auto (.seq .auto (.mask mr .auto))) ⟨tr,tr,tr⟩ (fn k)
end G.blob_IsDigest
namespace G.action_isWord
abbrev ps : Mk := sS []
abbrev rs : Mk := sB []
abbrev e0 : Mk := sS (nM 27 [])
abbrev m0 : Mk := sS (n4 (sI (sI (nM 21 []))))
abbrev mr : Mk := n2 (sB (nM 25 []))
abbrev T0 := BA × Int × Int × U1
def C (k : Nat) : List (Ent PG R) := []
def b0 (k : Nat) (J0 : Kt R (BA × U1)) (Jret : Kt R (Bool × U1)) (rec : Kt R T0) (x : T0) (S : LL) : Option R :=
 ifB (decide (x.2.2.1 < x.2.1)) (idxStr x.1 x.2.2.1 fun c1 => ifB (decide (c1 < 33)) (Jret (false,()) S) (idxStr x.1 x.2.2.1 fun c2 => ifB (decide (c2 > 126)) (Jret (false,()) S) (rec (x.1,x.2.1,(IntKind.wrap .i64 (x.2.2.1 + 1)),()) S))) (J0 (x.1,()) S)
def L0 (k : Nat) : Pc PG R (.loop (su Tryz.f145 37)) := mkLoop T_ok (C k) _ m0 k (.seq .auto (.seq (.cond .auto (.mask e0 .auto)) (.seq (.block (.seq .auto (.seq .auto (.cond (.seq .auto (.mask mr .auto)) .auto)))) .auto))) ⟨tr,⟨tr,tr⟩,⟨tr,tr,⟨tr,tr⟩,tr⟩,tr⟩ (fun K => b0 k (kX K 0 e0) (kR K mr))
def fn (k : Nat) (x : (BA × U1)) (S : LL) (K : Kt R (Bool × U1)) : Option R :=
 rounds (b0 k (fun o3 S => ifB (decide ((o3.1.size : Int) ≥ 1)) (K ((decide ((o3.1.size : Int) ≤ 300)),()) S) (K (false,()) S)) K) k (x.1,(x.1.size : Int),0,()) S
def en (k : Nat) : Ent PG R := mkFn T_ok Tryz.func145 ps rs (C k) (.seq .auto (.seq (.seq .auto (.block (.piece (L0 k).h))) (.seq .auto (.mask mr .auto)))) ⟨tr,⟨tr,(L0 k).ok⟩,tr,tr⟩ (fn k)
end G.action_isWord
namespace G.action_checkCommand_1
abbrev ps : Mk := sS []
abbrev rs : Mk := sB []
abbrev mr : Mk := n2 (sB (n3 []))
def C (k : Nat) : List (Ent PG R) := [action_isWord.en k]
def fn (k : Nat) (x : (BA × U1)) (S : LL) (K : Kt R (Bool × U1)) : Option R :=
 action_isWord.fn k x S fun r1 S => K ((!r1.1),()) S
def en (k : Nat) : Ent PG R := mkFn T_ok Tryz.func144 ps rs (C k) (.seq .auto (.seq .auto (.mask mr .auto))) ⟨tr,tr,tr⟩ (fn k)
end G.action_checkCommand_1
namespace G.slices_IndexFunc_s_string_string_at_action_checkCommand_1
abbrev ps : Mk := sL 1 (sh (.fn 144 []) [])
abbrev rs : Mk := sI []
abbrev e0 : Mk := nM 19 []
abbrev m0 : Mk := sL 1 (sh (.fn 144 []) (n5 (sI (sI (nX [])))))
abbrev mr : Mk := n4 (sI (nM 14 []))
abbrev T0 := LL × (U1) × Int × Int × U1
def C (k : Nat) : List (Ent PG R) := [action_checkCommand_1.en k]
def b0 (k : Nat) (J0 : Kt R (U1)) (Jret : Kt R (Int × U1)) (rec : Kt R T0) (x : T0) (S : LL) : Option R :=
 ifB (decide (x.2.2.2.1 < x.2.2.1)) (idxL x.1 x.2.2.2.1 fun v1 => asStr (leaf v1 0) fun s2 => action_checkCommand_1.fn k (s2,()) S fun r3 S => ifB r3.1 (Jret x.2.2.2 S) (rec (x.1,(()),x.2.2.1,(IntKind.wrap .i64 (x.2.2.2.1 + 1)),()) S)) (J0 (()) S)
def L0 (k : Nat) : Pc PG R (.loop (su Tryz.f67 37)) := mkLoop T_ok (C k) _ m0 k (.seq .auto (.seq (.cond .auto (.mask e0 .auto)) (.seq (.block (.seq .auto (.seq .auto (.cond (.seq .auto (.mask mr .auto)) .auto)))) .auto))) ⟨tr,⟨tr,tr⟩,⟨tr,tr,⟨tr,tr⟩,tr⟩,tr⟩ (fun K => b0 k (kX K 0 e0) (kR K mr))
def fn (k : Nat) (x : (LL × (U1) × U1)) (S : LL) (K : Kt R (Int × U1)) : Option R :=
 rounds (b0 k (fun o4 S => K (-1,()) S) K) k (x.1,(()),(x.1.length : Int),0,()) S
def en (k : Nat) : Ent PG R := mkFn T_ok Tryz.func67 ps rs (C k) (.seq .auto (.seq (.seq .auto (.block (.piece (L0 k).h))) (.seq .auto (.mask mr .auto)))) ⟨tr,⟨tr,(L0 k).ok⟩,tr,tr⟩ (fn k)
end G.slices_IndexFunc_s_string_string_at_action_checkCommand_1
namespace G.slices_ContainsFunc_s_string_string_at_action_checkCommand_1
abbrev ps : Mk := sL 1 (sh (.fn 144 []) [])
abbrev rs : Mk := sB []
abbrev mr : Mk := n4 (sB (n4 []))
def C (k : Nat) : List (Ent PG R) := [slices_IndexFunc_s_string_string_at_action_checkCommand_1.en k]
def fn (k : Nat) (x : (LL × (U1) × U1)) (S : LL) (K : Kt R (Bool × U1)) : Option R :=
 slices_IndexFunc_s_string_string_at_action_checkCommand_1.fn k (x.1,(()),()) S fun r1 S => K ((decide (r1.1 ≥ 0)),()) S
def en (k : Nat) : Ent PG R := mkFn T_ok Tryz.func37 ps rs (C k) (.seq .auto (.seq .auto (.mask mr .auto))) ⟨tr,tr,tr⟩ (fn k)
end G.slices_ContainsFunc_s_string_string_at_action_checkCommand_1
namespace G.action_formOf
abbrev ps : Mk := sS []
abbrev rs : Mk := sS []
abbrev c0 : Mk := n3 (sS (n2 (sB (nM 22 []))))
abbrev c1 : Mk := n3 (sS (n9 (sB (nM 15 []))))
abbrev c2 : Mk := n3 (sS (nM 11 (sB (nM 13 []))))
abbrev c3 : Mk := n3 (sS (nM 13 (sB (nM 11 []))))
abbrev c4 : Mk := n3 (sS (nM 15 (sB (n9 []))))
abbrev c5 : Mk := n3 (sS (nM 17 (sB (n7 []))))
abbrev c6 : Mk := n3 (sS (nM 19 (sB (n5 []))))
abbrev c7 : Mk := n3 (sS (nM 21 (sB (n3 []))))
abbrev z0 : Mk := nM 29 []
abbrev mr : Mk := n2 (sS (nM 26 []))
abbrev T1 := BA × U1
abbrev T0 := BA × Bool × U1
def C (k : Nat) : List (Ent PG R) := []
def q7 (k : Nat) (Jnrm : Kt R (U1)) (Jret : Kt R T1) (x : T0) (S : LL) : Option R :=
 ifB x.2.1 (Jret ((bs [112,112]),()) S) (ifB (strEq x.1 (bs [102,97,105,108])) (Jret ((bs [110]),()) S) (Jnrm (()) S))
def Q7 (k : Nat) : Pc PG R (su Tryz.f146 4194293) := mkEnd T_ok (C k) _ c7 z0 (.cond (.seq .auto (.mask mr .auto)) (.seq .auto (.cond (.seq .auto (.mask mr .auto)) .auto))) ⟨⟨tr,tr⟩,tr,⟨tr,tr⟩,tr⟩ (fun x S K => q7 k (kN K z0) (kR K mr) x S)
def q6 (k : Nat) (Jnrm : Kt R (U1)) (Jret : Kt R T1) (x : T0) (S : LL) : Option R :=
 ifB x.2.1 (Jret ((bs [112]),()) S) (q7 k (fun o1 S => Jnrm (()) S) Jret (x.1,(strEq x.1 (bs [115,97,109,101])),()) S)
def Q6 (k : Nat) : Pc PG R (su Tryz.f146 1048565) := mkEnd T_ok (C k) _ c6 z0 (.cond (.seq .auto (.mask mr .auto)) (.seq .auto (.piece (Q7 k).h))) ⟨⟨tr,tr⟩,tr,(Q7 k).ok⟩ (fun x S K => q6 k (kN K z0) (kR K mr) x S)
def q5 (k : Nat) (Jnrm : Kt R (U1)) (Jret : Kt R T1) (x : T0) (S : LL) : Option R :=
 ifB x.2.1 (Jret ((bs [119,43]),()) S) (q6 k (fun o3 S => Jnrm (()) S) Jret (x.1,(strEq x.1 (bs [110,101,101,100])),()) S)
def Q5 (k : Nat) : Pc PG R (su Tryz.f146 262133) := mkEnd T_ok (C k) _ c5 z0 (.cond (.seq .auto (.mask mr .auto)) (.seq .auto (.piece (Q6 k).h))) ⟨⟨tr,tr⟩,tr,(Q6 k).ok⟩ (fun x S K => q5 k (kN K z0) (kR K mr) x S)
def q4 (k : Nat) (Jnrm : Kt R (U1)) (Jret : Kt R T1) (x : T0) (S : LL) : Option R :=
 ifB x.2.1 (Jret ((bs [112,119]),()) S) (q5 k (fun o5 S => Jnrm (()) S) Jret (x.1,(strEq x.1 (bs [116,101,108,108])),()) S)
def Q4 (k : Nat) : Pc PG R (su Tryz.f146 65525) := mkEnd T_ok (C k) _ c4 z0 (.cond (.seq .auto (.mask mr .auto)) (.seq .auto (.piece (Q5 k).h))) ⟨⟨tr,tr⟩,tr,(Q5 k).ok⟩ (fun x S K => q4 k (kN K z0) (kR K mr) x S)
def q3 (k : Nat) (Jnrm : Kt R (U1)) (Jret : Kt R T1) (x : T0) (S : LL) : Option R :=
 ifB x.2.1 (Jret ((bs [112,112,112,43]),()) S) (q4 k (fun o7 S => Jnrm (()) S) Jret (x.1,(strEq x.1 (bs [118,97,114])),()) S)
def Q3 (k : Nat) : Pc PG R (su Tryz.f146 16373) := mkEnd T_ok (C k) _ c3 z0 (.cond (.seq .auto (.mask mr .auto)) (.seq .auto (.piece (Q4 k).h))) ⟨⟨tr,tr⟩,tr,(Q4 k).ok⟩ (fun x S K => q3 k (kN K z0) (kR K mr) x S)
def q2 (k : Nat) (Jnrm : Kt R (U1)) (Jret : Kt R T1) (x : T0) (S : LL) : Option R :=
 ifB x.2.1 (Jret ((bs [112,119,119,112]),()) S) (q3 k (fun o9 S => Jnrm (()) S) Jret (x.1,(strEq x.1 (bs [112,105,99,107])),()) S)
def Q2 (k : Nat) : Pc PG R (su Tryz.f146 4085) := mkEnd T_ok (C k) _ c2 z0 (.cond (.seq .auto (.mask mr .auto)) (.seq .auto (.piece (Q3 k).h))) ⟨⟨tr,tr⟩,tr,(Q3 k).ok⟩ (fun x S K => q2 k (kN K z0) (kR K mr) x S)
def q1 (k : Nat) (Jnrm : Kt R (U1)) (Jret : Kt R T1) (x : T0) (S : LL) : Option R :=
 ifB x.2.1 (Jret ((bs [112,110,112]),()) S) (q2 k (fun o11 S => Jnrm (()) S) Jret (x.1,(strEq x.1 (bs [99,104,97,110,103,101])),()) S)
def Q1 (k : Nat) : Pc PG R (su Tryz.f146 1013) := mkEnd T_ok (C k) _ c1 z0 (.cond (.seq .auto (.mask mr .auto)) (.seq .auto (.piece (Q2 k).h))) ⟨⟨tr,tr⟩,tr,(Q2 k).ok⟩ (fun x S K => q1 k (kN K z0) (kR K mr) x S)
def q0 (k : Nat) (Jnrm : Kt R (U1)) (Jret : Kt R T1) (x : T0) (S : LL) : Option R :=
 ifB x.2.1 (Jret ((bs [112,112]),()) S) (q1 k (fun o13 S => Jnrm (()) S) Jret (x.1,(strEq x.1 (bs [102,105,114,115,116])),()) S)
def Q0 (k : Nat) : Pc PG R (su Tryz.f146 245) := mkEnd T_ok (C k) _ c0 z0 (.cond (.seq .auto (.mask mr .auto)) (.seq .auto (.piece (Q1 k).h))) ⟨⟨tr,tr⟩,tr,(Q1 k).ok⟩ (fun x S K => q0 k (kN K z0) (kR K mr) x S)
def fn (k : Nat) (x : T1) (S : LL) (K : Kt R T1) : Option R :=
 ifB (strEq x.1 (bs [106,111,105,110])) (K ((bs [112,112,43]),()) S) (ifB (strEq x.1 (bs [115,111,114,116])) (q0 k (fun o15 S => K ((bs []),()) S) K (x.1,(strEq x.1 (bs [115,111,114,116])),()) S) (ifB (strEq x.1 (bs [99,111,117,110,116])) (q0 k (fun o17 S => K ((bs []),()) S) K (x.1,(strEq x.1 (bs [99,111,117,110,116])),()) S) (ifB (strEq x.1 (bs [101,120,112,97,110,100])) (q0 k (fun o19 S => K ((bs []),()) S) K (x.1,(strEq x.1 (bs [101,120,112,97,110,100])),()) S) (ifB (strEq x.1 (bs [109,97,107,101])) (q0 k (fun o21 S => K ((bs []),()) S) K (x.1,(strEq x.1 (bs [109,97,107,101])),()) S) (ifB (strEq x.1 (bs [100,105,103,101,115,116])) (q0 k (fun o23 S => K ((bs []),()) S) K (x.1,(strEq x.1 (bs [100,105,103,101,115,116])),()) S) (q0 k (fun o25 S => K ((bs []),()) S) K (x.1,(strEq x.1 (bs [108,105,115,116])),()) S))))))
def en (k : Nat) : Ent PG R := mkFn T_ok Tryz.func146 ps rs (C k) (.seq .auto (.seq (.seq .auto (.block (.seq .auto (.cond (.seq .auto (.mask mr .auto)) (.seq (.seq .auto (.cond .auto (.seq .auto (.cond .auto (.seq .auto (.cond .auto (.seq .auto (.cond .auto (.seq .auto (.cond .auto .auto)))))))))) (.piece (Q0 k).h)))))) (.seq .auto (.mask mr .auto)))) ⟨tr,⟨tr,tr,⟨tr,tr⟩,⟨tr,tr,tr,tr,tr,tr,tr,tr,tr,tr,tr⟩,(Q0 k).ok⟩,tr,tr⟩ (fn k)
end G.action_formOf
namespace G.internal_stringslite_HasSuffix
abbrev ps : Mk := sS (sS [])
abbrev rs : Mk := sB []
abbrev mr : Mk := n4 (sB (nM 16 []))
def C (k : Nat) : List (Ent PG R) := []
def fn (k : Nat) (x : (BA × BA × U1)) (S : LL) (K : Kt R (Bool × U1)) : Option R :=
 ifB (decide ((x.1.size : Int) ≥ (x.2.1.size : Int))) (slStr x.1 (IntKind.wrap .i64 ((x.1.size : Int) - (x.2.1.size : Int))) (x.1.size : Int) fun s1 => K ((strEq s1 x.2.1),()) S) (K (false,()) S)
def en (k : Nat) : Ent PG R := mkFn T_ok Tryz.func169 ps rs (C k) (.seq .auto (.seq .auto (.mask mr .auto))) ⟨tr,tr,tr⟩ (fn k)
end G.internal_stringslite_HasSuffix
namespace G.internal_stringslite_CutSuffix
abbrev ps : Mk := sS (sS [])
abbrev rs : Mk := sS (sB [])
abbrev mr : Mk := n4 (sS (sB (nM 12 [])))
def C (k : Nat) : List (Ent PG R) := [internal_stringslite_HasSuffix.en k]
def fn (k : Nat) (x : (BA × BA × U1)) (S : LL) (K : Kt R (BA × Bool × U1)) : Option R :=
 internal_stringslite_HasSuffix.fn k x S fun r1 S => ifB (!r1.1) (K (x.1,false,()) S) (slStr x.1 (0 : Int) (IntKind.wrap .i64 ((x.1.size : Int) - (x.2.1.size : Int))) fun s2 => K (s2,true,()) S)
def en (k : Nat) : Ent PG R := mkFn T_ok Tryz.func203 ps rs (C k) (.seq .auto (.seq (.seq .auto (.cond (.seq .auto (.mask mr .auto)) .auto)) (.seq .auto (.mask mr .auto)))) ⟨tr,⟨tr,⟨tr,tr⟩,tr⟩,tr,tr⟩ (fn k)
end G.internal_stringslite_CutSuffix
namespace G.strings_CutSuffix
abbrev ps : Mk := sS (sS [])
abbrev rs : Mk := sS (sB [])
abbrev mr : Mk := n4 (sS (sB (n5 [])))
def C (k : Nat) : List (Ent PG R) := [internal_stringslite_CutSuffix.en k]
def fn (k : Nat) (x : (BA × BA × U1)) (S : LL) (K : Kt R (BA × Bool × U1)) : Option R :=
 internal_stringslite_CutSuffix.fn k x S K
def en (k : Nat) : Ent PG R := mkFn T_ok Tryz.func178 ps rs (C k) (.seq .auto (.seq .auto (.mask mr .auto))) ⟨tr,tr,tr⟩ (fn k)
end G.strings_CutSuffix
namespace G.action_isNumber
abbrev ps : Mk := sS (sI [])
abbrev rs : Mk := sB []
abbrev mr : Mk := n4 (sB (nM 23 []))
def C (k : Nat) : List (Ent PG R) := [⟨109,H.Trim.h k,H.Trim.ok k⟩]
def fn (k : Nat) (x : (BA × Int × U1)) (S : LL) (K : Kt R (Bool × U1)) : Option R :=
 ifB (decide ((x.1.size : Int) ≥ 1)) (ifB (decide ((x.1.size : Int) ≤ x.2.1)) (H.Trim.fn k (x.1,(bs [48,49,50,51,52,53,54,55,56,57]),()) S fun r1 S => ifB (strEq r1.1 (bs [])) (idxStr x.1 (0 : Int) fun c2 => ifB (c2 != 48) (K (true,()) S) (K ((strEq x.1 (bs [48])),()) S)) (K (false,()) S)) (K (false,()) S)) (K (false,()) S)
def en (k : Nat) : Ent PG R := mkFn T_ok Tryz.func190 ps rs (C k) (.seq .auto (.seq .auto (.mask mr .auto))) ⟨tr,tr,tr⟩ (fn k)
end G.action_isNumber
namespace G.action_hasForm
abbrev ps : Mk := sL 1 (sS [])
abbrev rs : Mk := sB []
abbrev c0 : Mk := n1 (sS (nM 27 (sL 1 (sI (sI (nM 22 []))))))
abbrev c1 : Mk := sL 1 (sS (nM 52 []))
abbrev c2 : Mk := n1 (sS (nM 27 (sL 1 (sI (sI (sB (nM 21 [])))))))
abbrev c4 : Mk := n1 (sS (n4 (sI (sS (nM 21 (sL 1 (sI (sI (nM 22 [])))))))))
abbrev c5 : Mk := n1 (sS (n5 (sS (nM 21 (sL 1 (sI (sI (nX (sh (.lf (.int .u8)) (nM 11 []))))))))))
abbrev c6 : Mk := n1 (sS (n5 (sS (nM 21 (sL 1 (sI (sI (nX (sh (.lf (.int .u8)) (sB (nX [])))))))))))
abbrev c7 : Mk := n1 (sS (n5 (sS (nM 21 (sL 1 (sI (sI (nM 16 (sB (n5 []))))))))))
abbrev z0 : Mk := nM 54 []
abbrev mr : Mk := n4 (sB (nM 49 []))
abbrev T1 := Bool × U1
abbrev T0 := BA × LL × Int × Int × U1
def C (k : Nat) : List (Ent PG R) := [blob_IsPath.en k,strings_CutSuffix.en k,action_isNumber.en k]
def q7 (k : Nat) (Jnrm : Kt R T0) (Jret : Kt R T1) (x : (BA × BA × LL × Int × Int × Bool × U1)) (S : LL) : Option R :=
 ifB x.2.2.2.2.2.1 (action_isNumber.fn k (x.2.1,6,()) S fun r6 S => ifB (!r6.1) (Jret (false,()) S) (Jnrm (x.1,x.2.2.1,x.2.2.2.1,x.2.2.2.2.1,()) S)) (Jnrm (x.1,x.2.2.1,x.2.2.2.1,x.2.2.2.2.1,()) S)
def Q7 (k : Nat) : Pc PG R (su Tryz.f147 252311) := mkEnd T_ok (C k) _ c7 c0 (.cond (.seq .auto (.cond (.seq .auto (.mask mr .auto)) .auto)) .auto) ⟨⟨tr,⟨tr,tr⟩,tr⟩,tr⟩ (fun x S K => q7 k (kN K c0) (kR K mr) x S)
def q6 (k : Nat) (Jnrm : Kt R T0) (Jret : Kt R T1) (x : (BA × BA × LL × Int × Int × Int × Bool × U1)) (S : LL) : Option R :=
 ifB x.2.2.2.2.2.2.1 (blob_IsPath.fn k (x.2.1,()) S fun r5 S => ifB (!r5.1) (Jret (false,()) S) (Jnrm (x.1,x.2.2.1,x.2.2.2.1,x.2.2.2.2.1,()) S)) (q7 k Jnrm Jret (x.1,x.2.1,x.2.2.1,x.2.2.2.1,x.2.2.2.2.1,(x.2.2.2.2.2.1 == 110),()) S)
def Q6 (k : Nat) : Pc PG R (su Tryz.f147 55703) := mkEnd T_ok (C k) _ c6 c0 (.cond (.seq .auto (.cond (.seq .auto (.mask mr .auto)) .auto)) (.seq .auto (.piece (Q7 k).h))) ⟨⟨tr,⟨tr,tr⟩,tr⟩,tr,(Q7 k).ok⟩ (fun x S K => q6 k (kN K c0) (kR K mr) x S)
def q5 (k : Nat) (Jnrm : Kt R T0) (Jret : Kt R T1) (x : (BA × BA × LL × Int × Int × Int × U1)) (S : LL) : Option R :=
 q6 k Jnrm Jret (x.1,x.2.1,x.2.2.1,x.2.2.2.1,x.2.2.2.2.1,x.2.2.2.2.2.1,(x.2.2.2.2.2.1 == 112),()) S
def Q5 (k : Nat) : Pc PG R (su Tryz.f147 14743) := mkEnd T_ok (C k) _ c5 c0 (.block (.seq .auto (.piece (Q6 k).h))) ⟨tr,(Q6 k).ok⟩ (fun x S K => q5 k (kN K c0) (kR K mr) x S)
def q4 (k : Nat) (Jnrm : Kt R T0) (Jret : Kt R T1) (x : (BA × Int × BA × LL × Int × Int × U1)) (S : LL) : Option R :=
 idxStr x.1 (minI x.2.1 (IntKind.wrap .i64 ((x.1.size : Int) - 1))) fun c4 => q5 k Jnrm Jret (x.1,x.2.2.1,x.2.2.2.1,x.2.2.2.2.1,x.2.2.2.2.2.1,c4,()) S
def Q4 (k : Nat) : Pc PG R (su Tryz.f147 6551) := mkEnd T_ok (C k) _ c4 c0 (.seq .auto (.piece (Q5 k).h)) ⟨tr,(Q5 k).ok⟩ (fun x S K => q4 k (kN K c0) (kR K mr) x S)
def q3 (k : Nat) (Jnrm : Kt R T0) (Jret : Kt R T1) (x : T0) (S : LL) : Option R :=
 idxL x.2.1 x.2.2.2.1 fun v2 => asStr (leaf v2 0) fun s3 => q4 k (fun o13 S => Jnrm (o13.1,o13.2.1,o13.2.2.1,(IntKind.wrap .i64 (o13.2.2.2.1 + 1)),()) S) Jret (x.1,x.2.2.2.1,s3,x.2) S
def Q3 (k : Nat) : Pc PG R (su Tryz.f147 919) := mkEnd T_ok (C k) _ c0 c0 (.seq (.block (.seq .auto (.piece (Q4 k).h))) .auto) ⟨⟨tr,(Q4 k).ok⟩,tr⟩ (fun x S K => q3 k (kN K c0) (kR K mr) x S)
def q2 (k : Nat) (Jnrm : Kt R T0) (J0 : Kt R (U1)) (Jret : Kt R T1) (x : (BA × LL × Int × Int × Bool × U1)) (S : LL) : Option R :=
 ifB x.2.2.2.2.1 (q3 k Jnrm Jret (x.1,x.2.1,x.2.2.1,x.2.2.2.1,()) S) (J0 (()) S)
def Q2 (k : Nat) : Pc PG R (su Tryz.f147 407) := mkEnd T_ok (C k) _ c2 c0 (.seq (.cond .auto (.mask z0 .auto)) (.piece (Q3 k).h)) ⟨⟨tr,tr⟩,(Q3 k).ok⟩ (fun x S K => q2 k (kN K c0) (kX K 0 z0) (kR K mr) x S)
def b0 (k : Nat) (J0 : Kt R (U1)) (Jret : Kt R T1) (rec : Kt R T0) (x : T0) (S : LL) : Option R :=
 q2 k rec (fun o18 S => J0 (()) S) Jret (x.1,x.2.1,x.2.2.1,x.2.2.2.1,(decide (x.2.2.2.1 < x.2.2.1)),()) S
def L0 (k : Nat) : Pc PG R (.loop (su Tryz.f147 151)) := mkLoop T_ok (C k) _ c0 k (.seq .auto (.piece (Q2 k).h)) ⟨tr,(Q2 k).ok⟩ (fun K => b0 k (kX K 0 z0) (kR K mr))
def q0 (k : Nat) (Jnrm : Kt R (U1)) (Jret : Kt R T1) (x : T0) (S : LL) : Option R :=
 rounds (b0 k (fun o20 S => Jnrm (()) S) Jret) k x S
def Q0 (k : Nat) : Pc PG R (su Tryz.f147 55) := mkEnd T_ok (C k) _ c0 z0 (.block (.piece (L0 k).h)) (L0 k).ok (fun x S K => q0 k (kN K z0) (kR K mr) x S)
def q1 (k : Nat) (Jret : Kt R T1) (x : (LL × BA × U1)) (S : LL) : Option R :=
 q0 k (fun o22 S => Jret (true,()) S) Jret (x.2.1,x.1,(x.1.length : Int),0,()) S
def Q1 (k : Nat) : Pc PG R (su Tryz.f147 15) := mkCut T_ok (C k) _ c1 (.seq (.seq .auto (.piece (Q0 k).h)) (.seq .auto (.mask mr .auto))) ⟨⟨tr,(Q0 k).ok⟩,tr,tr⟩ (fun x S K => q1 k (kR K mr) x S)
def fn (k : Nat) (x : (LL × BA × U1)) (S : LL) (K : Kt R T1) : Option R :=
 strings_CutSuffix.fn k (x.2.1,(bs [43]),()) S fun r1 S => ifB (decide ((x.1.length : Int) < (r1.1.size : Int))) (K (false,()) S) (ifB (decide ((x.1.length : Int) > (r1.1.size : Int))) (ifB (!r1.2.1) (K (false,()) S) (q1 k K (x.1,r1.1,()) S)) (q1 k K (x.1,r1.1,()) S))
def en (k : Nat) : Ent PG R := mkFn T_ok Tryz.func147 ps rs (C k) (.seq .auto (.seq (.own [(2,1)]) (.seq (.seq .auto (.cond (.seq .auto (.mask mr .auto)) .auto)) (.piece (Q1 k).h)))) ⟨tr,tr,⟨tr,⟨tr,tr⟩,tr⟩,(Q1 k).ok⟩ (fn k)
end G.action_hasForm
namespace G.action_checkCommand
abbrev ps : Mk := sL 1 []
abbrev rs : Mk := sI []
abbrev mr : Mk := n2 (sI (nM 32 []))
def C (k : Nat) : List (Ent PG R) := [slices_ContainsFunc_s_string_string_at_action_checkCommand_1.en k,action_formOf.en k,action_hasForm.en k]
def fn (k : Nat) (x : (LL × U1)) (S : LL) (K : Kt R (Int × U1)) : Option R :=
 ifB ((x.1.length : Int) == 0) (K (9,()) S) (ifB (decide ((x.1.length : Int) > 50)) (K (2,()) S) (slices_ContainsFunc_s_string_string_at_action_checkCommand_1.fn k (x.1,(()),()) S fun r1 S => ifB r1.1 (K (3,()) S) (idxL x.1 (0 : Int) fun v2 => asStr (leaf v2 0) fun s3 => action_formOf.fn k (s3,()) S fun r4 S => ifB (strEq r4.1 (bs [])) (K (4,()) S) (slL x.1 (1 : Int) (x.1.length : Int) fun l5 => action_hasForm.fn k (l5,r4) S fun r6 S => ifB (!r6.1) (K (3,()) S) (idxL x.1 (0 : Int) fun v7 => asStr (leaf v7 0) fun s8 => ifB (strEq s8 (bs [102,97,105,108])) (idxL x.1 (1 : Int) fun v9 => asStr (leaf v9 0) fun s10 => ifB (strEq s10 (bs [48])) (K (3,()) S) (K (0,()) S)) (K (0,()) S))))))
def en (k : Nat) : Ent PG R := mkFn T_ok Tryz.func104 ps rs (C k) (.seq .auto (.seq (.seq .auto (.cond (.seq .auto (.mask mr .auto)) .auto)) (.seq (.seq .auto (.cond (.seq .auto (.mask mr .auto)) .auto)) (.seq (.seq .auto (.cond (.seq .auto (.mask mr .auto)) .auto)) (.seq .auto (.seq (.seq .auto (.cond (.seq .auto (.mask mr .auto)) .auto)) (.seq (.seq .auto (.cond (.seq .auto (.mask mr .auto)) .auto)) (.seq .auto (.mask mr .auto))))))))) ⟨tr,⟨tr,⟨tr,tr⟩,tr⟩,⟨tr,⟨tr,tr⟩,tr⟩,⟨tr,⟨tr,tr⟩,tr⟩,tr,⟨tr,⟨tr,tr⟩,tr⟩,⟨tr,⟨tr,tr⟩,tr⟩,tr,tr⟩ (fn k)
end G.action_checkCommand
namespace G.script_isSmall
abbrev ps : Mk := sh (.lf (.int .u8)) []
abbrev rs : Mk := sB []
abbrev mr : Mk := n2 (sB (n6 []))
def C (k : Nat) : List (Ent PG R) := []
def fn (k : Nat) (x : (Int × U1)) (S : LL) (K : Kt R (Bool × U1)) : Option R :=
 ifB (decide (x.1 ≥ 97)) (K ((decide (x.1 ≤ 122)),()) S) (K (false,()) S)
def en (k : Nat) : Ent PG R := mkFn T_ok Tryz.func191 ps rs (C k) (.seq .auto (.seq .auto (.mask mr .auto))) ⟨tr,tr,tr⟩ (fn k)
end G.script_isSmall
namespace G.script_isDigit
abbrev ps : Mk := sh (.lf (.int .u8)) []
abbrev rs : Mk := sB []
abbrev mr : Mk := n2 (sB (n6 []))
def C (k : Nat) : List (Ent PG R) := []
def fn (k : Nat) (x : (Int × U1)) (S : LL) (K : Kt R (Bool × U1)) : Option R :=
 ifB (decide (x.1 ≥ 48)) (K ((decide (x.1 ≤ 57)),()) S) (K (false,()) S)
def en (k : Nat) : Ent PG R := mkFn T_ok Tryz.func192 ps rs (C k) (.seq .auto (.seq .auto (.mask mr .auto))) ⟨tr,tr,tr⟩ (fn k)
end G.script_isDigit
namespace G.script_words
abbrev ps : Mk := []
abbrev rs : Mk := sO 9 1 []
abbrev mr : Mk := sO 9 1 (n1 [])
def C (k : Nat) : List (Ent PG R) := []
def fn (k : Nat) (x : (U1)) (S : LL) (K : Kt R (LL × U1)) : Option R :=
 K ([(.str (bs [109,97,99,114,111])),(.str (bs [102,111,114])),(.str (bs [105,110])),(.str (bs [105,102])),(.str (bs [101,108,115,101])),(.str (bs [117,115,101])),(.str (bs [102,105,108,101,115])),(.str (bs [99,104,111,111,115,101]))],()) S
def en (k : Nat) : Ent PG R := mkFn T_ok Tryz.func193 ps rs (C k) (.seq .auto (.seq .auto (.mask mr .auto))) ⟨tr,tr,tr⟩ (fn k)
end G.script_words
namespace G.slices_Index_s_string_string
abbrev ps : Mk := sL 1 (sS [])
abbrev rs : Mk := sI []
abbrev e0 : Mk := nM 19 []
abbrev m0 : Mk := sL 1 (sS (n5 (sI (sI (nX [])))))
abbrev mr : Mk := n4 (sI (nM 14 []))
abbrev T0 := LL × BA × Int × Int × U1
def C (k : Nat) : List (Ent PG R) := []
def b0 (k : Nat) (J0 : Kt R (U1)) (Jret : Kt R (Int × U1)) (rec : Kt R T0) (x : T0) (S : LL) : Option R :=
 ifB (decide (x.2.2.2.1 < x.2.2.1)) (idxL x.1 x.2.2.2.1 fun v1 => asStr (leaf v1 0) fun s2 => ifB (strEq x.2.1 s2) (Jret x.2.2.2 S) (rec (x.1,x.2.1,x.2.2.1,(IntKind.wrap .i64 (x.2.2.2.1 + 1)),()) S)) (J0 (()) S)
def L0 (k : Nat) : Pc PG R (.loop (su Tryz.f27 37)) := mkLoop T_ok (C k) _ m0 k (.seq .auto (.seq (.cond .auto (.mask e0 .auto)) (.seq (.block (.seq .auto (.seq .auto (.cond (.seq .auto (.mask mr .auto)) .auto)))) .auto))) ⟨tr,⟨tr,tr⟩,⟨tr,tr,⟨tr,tr⟩,tr⟩,tr⟩ (fun K => b0 k (kX K 0 e0) (kR K mr))
def fn (k : Nat) (x : (LL × BA × U1)) (S : LL) (K : Kt R (Int × U1)) : Option R :=
 rounds (b0 k (fun o3 S => K (-1,()) S) K) k (x.1,x.2.1,(x.1.length : Int),0,()) S
def en (k : Nat) : Ent PG R := mkFn T_ok Tryz.func27 ps rs (C k) (.seq .auto (.seq (.seq .auto (.block (.piece (L0 k).h))) (.seq .auto (.mask mr .auto)))) ⟨tr,⟨tr,(L0 k).ok⟩,tr,tr⟩ (fn k)
end G.slices_Index_s_string_string
namespace G.slices_Contains_s_string_string
abbrev ps : Mk := sL 1 (sS [])
abbrev rs : Mk := sB []
abbrev mr : Mk := n4 (sB (n4 []))
def C (k : Nat) : List (Ent PG R) := [slices_Index_s_string_string.en k]
def fn (k : Nat) (x : (LL × BA × U1)) (S : LL) (K : Kt R (Bool × U1)) : Option R :=
 slices_Index_s_string_string.fn k x S fun r1 S => K ((decide (r1.1 ≥ 0)),()) S
def en (k : Nat) : Ent PG R := mkFn T_ok Tryz.func10 ps rs (C k) (.seq .auto (.seq .auto (.mask mr .auto))) ⟨tr,tr,tr⟩ (fn k)
end G.slices_Contains_s_string_string
namespace G.script_IsName
abbrev ps : Mk := sS []
abbrev rs : Mk := sB []
abbrev e0 : Mk := sS (nM 45 [])
abbrev m0 : Mk := sS (nM 18 (sI (sI (nM 25 []))))
abbrev mr : Mk := n2 (sB (nM 43 []))
abbrev T0 := BA × Int × Int × U1
def C (k : Nat) : List (Ent PG R) := [slices_Contains_s_string_string.en k,script_isSmall.en k,script_isDigit.en k,script_words.en k]
def b0 (k : Nat) (J0 : Kt R (BA × U1)) (Jret : Kt R (Bool × U1)) (rec : Kt R T0) (x : T0) (S : LL) : Option R :=
 ifB (decide (x.2.2.1 < x.2.1)) (idxStr x.1 x.2.2.1 fun c3 => script_isSmall.fn k (c3,()) S fun r4 S => ifB (!r4.1) (idxStr x.1 x.2.2.1 fun c5 => script_isDigit.fn k (c5,()) S fun r6 S => ifB (!r6.1) (idxStr x.1 x.2.2.1 fun c7 => ifB (c7 != 95) (Jret (false,()) S) (rec (x.1,x.2.1,(IntKind.wrap .i64 (x.2.2.1 + 1)),()) S)) (rec (x.1,x.2.1,(IntKind.wrap .i64 (x.2.2.1 + 1)),()) S)) (rec (x.1,x.2.1,(IntKind.wrap .i64 (x.2.2.1 + 1)),()) S)) (J0 (x.1,()) S)
def L0 (k : Nat) : Pc PG R (.loop (su Tryz.f148 75)) := mkLoop T_ok (C k) _ m0 k (.seq .auto (.seq (.cond .auto (.mask e0 .auto)) (.seq (.block (.seq .auto (.seq .auto (.cond (.seq .auto (.mask mr .auto)) .auto)))) .auto))) ⟨tr,⟨tr,tr⟩,⟨tr,tr,⟨tr,tr⟩,tr⟩,tr⟩ (fun K => b0 k (kX K 0 e0) (kR K mr))
def fn (k : Nat) (x : (BA × U1)) (S : LL) (K : Kt R (Bool × U1)) : Option R :=
 ifB (decide ((x.1.size : Int) < 1)) (K (false,()) S) (ifB (decide ((x.1.size : Int) > 40)) (K (false,()) S) (idxStr x.1 (0 : Int) fun c1 => script_isSmall.fn k (c1,()) S fun r2 S => ifB (!r2.1) (K (false,()) S) (rounds (b0 k (fun o8 S => script_words.fn k (()) S fun r9 S => slices_Contains_s_string_string.fn k (r9.1,o8) S fun r10 S => K ((!r10.1),()) S) K) k (x.1,(x.1.size : Int),0,()) S)))
def en (k : Nat) : Ent PG R := mkFn T_ok Tryz.func148 ps rs (C k) (.seq .auto (.seq (.seq .auto (.cond (.seq .auto (.mask mr .auto)) .auto)) (.seq (.seq .auto (.block (.piece (L0 k).h))) (.seq .auto (.mask mr .auto))))) ⟨tr,⟨tr,⟨tr,tr⟩,tr⟩,⟨tr,(L0 k).ok⟩,tr,tr⟩ (fn k)
end G.script_IsName
namespace G.action_checkVars_1
abbrev ps : Mk := sh (.lf (.int .i32)) []
abbrev rs : Mk := sB []
abbrev mr : Mk := n2 (sB (n6 []))
def C (k : Nat) : List (Ent PG R) := []
def fn (k : Nat) (x : (Int × U1)) (S : LL) (K : Kt R (Bool × U1)) : Option R :=
 ifB (decide (x.1 < 32)) (K (true,()) S) (K ((decide (x.1 > 126)),()) S)
def en (k : Nat) : Ent PG R := mkFn T_ok Tryz.func149 ps rs (C k) (.seq .auto (.seq .auto (.mask mr .auto))) ⟨tr,tr,tr⟩ (fn k)
end G.action_checkVars_1
def H.indexFunc_at_action_checkVars_1.fn (k : Nat) (x : ByteArray × Unit × Bool × Unit) (S : List LV) (K : Int × Unit → List LV → Option R) : Option R := H.indexFunc.fn (G.action_checkVars_1.en k).h 149 x S K
def H.indexFunc_at_action_checkVars_1.h (k : Nat) : Hd R := hT (H.indexFunc.ps 149) fun x S K => H.indexFunc_at_action_checkVars_1.fn k x S fun r S => K (resE H.indexFunc.rs r) S
theorem H.indexFunc_at_action_checkVars_1.ok (k : Nat) : HSound Tryz.prog 201 (H.indexFunc_at_action_checkVars_1.h (R := R) k) := H.indexFunc.ok (G.action_checkVars_1.en k).ok (enters_ok Tryz.func149 (by kernel_rfl) (by kernel_rfl))
namespace G.strings_IndexFunc_at_action_checkVars_1
abbrev ps : Mk := sS (sh (.fn 149 []) [])
abbrev rs : Mk := sI []
abbrev mr : Mk := n4 (sI (n3 []))
def C (k : Nat) : List (Ent PG R) := [⟨201,H.indexFunc_at_action_checkVars_1.h k,H.indexFunc_at_action_checkVars_1.ok k⟩]
def fn (k : Nat) (x : (BA × (U1) × U1)) (S : LL) (K : Kt R (Int × U1)) : Option R :=
 H.indexFunc_at_action_checkVars_1.fn k (x.1,(()),true,()) S K
def en (k : Nat) : Ent PG R := mkFn T_ok Tryz.func168 ps rs (C k) (.seq .auto (.seq .auto (.mask mr .auto))) ⟨tr,tr,tr⟩ (fn k)
end G.strings_IndexFunc_at_action_checkVars_1
namespace G.strings_ContainsFunc_at_action_checkVars_1
abbrev ps : Mk := sS (sh (.fn 149 []) [])
abbrev rs : Mk := sB []
abbrev mr : Mk := n4 (sB (n4 []))
def C (k : Nat) : List (Ent PG R) := [strings_IndexFunc_at_action_checkVars_1.en k]
def fn (k : Nat) (x : (BA × (U1) × U1)) (S : LL) (K : Kt R (Bool × U1)) : Option R :=
 strings_IndexFunc_at_action_checkVars_1.fn k (x.1,(()),()) S fun r1 S => K ((decide (r1.1 ≥ 0)),()) S
def en (k : Nat) : Ent PG R := mkFn T_ok Tryz.func110 ps rs (C k) (.seq .auto (.seq .auto (.mask mr .auto))) ⟨tr,tr,tr⟩ (fn k)
end G.strings_ContainsFunc_at_action_checkVars_1
namespace G.action_checkVars
abbrev ps : Mk := sL 2 []
abbrev rs : Mk := sI []
abbrev c0 : Mk := sL 2 (n2 (sI (sX [.str,.str] (n3 (sL 2 (sI (sI (n9 (sB (nM 24 []))))))))))
abbrev z0 : Mk := sL 2 (n7 (sL 2 (sI (sI (nM 34 [])))))
abbrev e0 : Mk := nM 45 []
abbrev mr : Mk := n2 (sI (nM 42 []))
abbrev T0 := LL × LL × Int × Int × U1
def C (k : Nat) : List (Ent PG R) := [strings_ContainsFunc_at_action_checkVars_1.en k,script_IsName.en k]
def q0 (k : Nat) (Jnrm : Kt R T0) (Jret : Kt R (Int × U1)) (x : (LL × Int × (BA × BA × U1) × LL × Int × Int × Bool × U1)) (S : LL) : Option R :=
 ifB x.2.2.2.2.2.2.1 (Jret ((3 : Int),()) S) (ifB (decide (x.2.1 > 0)) (idxL x.1 (IntKind.wrap .i64 (x.2.1 - 1)) fun v6 => asStr (leaf v6 0) fun s7 => ifB (strLt x.2.2.1.1 s7 || strEq x.2.2.1.1 s7) (Jret ((8 : Int),()) S) (Jnrm (x.1,x.2.2.2.1,x.2.2.2.2.1,x.2.2.2.2.2.1,()) S)) (Jnrm (x.1,x.2.2.2.1,x.2.2.2.2.1,x.2.2.2.2.2.1,()) S))
def Q0 (k : Nat) : Pc PG R (su Tryz.f105 62667) := mkEnd T_ok (C k) _ c0 z0 (.cond (.seq .auto (.mask mr .auto)) (.seq (.drawn [] [0,1,2,3,4,5,6,7,8,9,10,11,12,13]) (.cond (.seq .auto (.mask mr .auto)) .auto))) ⟨⟨tr,tr⟩,(drawn_an (by kernel_rfl)),⟨tr,tr⟩,tr⟩ (fun x S K => q0 k (kN K z0) (kR K mr) x S)
def b0 (k : Nat) (J0 : Kt R (U1)) (Jret : Kt R (Int × U1)) (rec : Kt R T0) (x : T0) (S : LL) : Option R :=
 ifB (decide (x.2.2.2.1 < x.2.2.1)) (idxL x.2.1 x.2.2.2.1 fun v1 => mat 2 v1 fun c2 => asStr (c2.getD 0 .any) fun s3 => asStr (c2.getD 1 .any) fun s4 => script_IsName.fn k (s3,()) S fun r5 S => ifB (!r5.1) (Jret ((5 : Int),()) S) (ifB (decide ((s4.size : Int) > 300)) (q0 k (fun o8 S => rec (o8.1,o8.2.1,o8.2.2.1,(IntKind.wrap .i64 (o8.2.2.2.1 + 1)),()) S) Jret (x.1,x.2.2.2.1,(s3,s4,()),x.2.1,x.2.2.1,x.2.2.2.1,true,()) S) (strings_ContainsFunc_at_action_checkVars_1.fn k (s4,(()),()) S fun r10 S => q0 k (fun o11 S => rec (o11.1,o11.2.1,o11.2.2.1,(IntKind.wrap .i64 (o11.2.2.2.1 + 1)),()) S) Jret (x.1,x.2.2.2.1,(s3,s4,()),x.2.1,x.2.2.1,x.2.2.2.1,r10) S))) (J0 (()) S)
def L0 (k : Nat) : Pc PG R (.loop (su Tryz.f105 75)) := mkLoop T_ok (C k) _ z0 k (.seq .auto (.seq (.cond .auto (.mask e0 .auto)) (.seq (.block (.seq .auto (.block (.seq .auto (.cond (.seq .auto (.mask mr .auto)) (.seq .auto (.piece (Q0 k).h))))))) .auto))) ⟨tr,⟨tr,tr⟩,⟨tr,tr,⟨tr,tr⟩,tr,(Q0 k).ok⟩,tr⟩ (fun K => b0 k (kX K 0 e0) (kR K mr))
def fn (k : Nat) (x : (LL × U1)) (S : LL) (K : Kt R (Int × U1)) : Option R :=
 ifB (decide ((x.1.length : Int) > 30)) (K (2,()) S) (rounds (b0 k (fun o13 S => K (0,()) S) K) k (x.1,x.1,(x.1.length : Int),0,()) S)
def en (k : Nat) : Ent PG R := mkFn T_ok Tryz.func105 ps rs (C k) (.seq .auto (.seq (.seq .auto (.cond (.seq .auto (.mask mr .auto)) .auto)) (.seq (.seq .auto (.block (.piece (L0 k).h))) (.seq .auto (.mask mr .auto))))) ⟨tr,⟨tr,⟨tr,tr⟩,tr⟩,⟨tr,(L0 k).ok⟩,tr,tr⟩ (fn k)
end G.action_checkVars
namespace G.internal_stringslite_HasPrefix
abbrev ps : Mk := sS (sS [])
abbrev rs : Mk := sB []
abbrev mr : Mk := n4 (sB (nM 13 []))
def C (k : Nat) : List (Ent PG R) := []
def fn (k : Nat) (x : (BA × BA × U1)) (S : LL) (K : Kt R (Bool × U1)) : Option R :=
 ifB (decide ((x.1.size : Int) ≥ (x.2.1.size : Int))) (slStr x.1 (0 : Int) (x.2.1.size : Int) fun s1 => K ((strEq s1 x.2.1),()) S) (K (false,()) S)
def en (k : Nat) : Ent PG R := mkFn T_ok Tryz.func130 ps rs (C k) (.seq .auto (.seq .auto (.mask mr .auto))) ⟨tr,tr,tr⟩ (fn k)
end G.internal_stringslite_HasPrefix
namespace G.strings_HasPrefix
abbrev ps : Mk := sS (sS [])
abbrev rs : Mk := sB []
abbrev mr : Mk := n4 (sB (n3 []))
def C (k : Nat) : List (Ent PG R) := [internal_stringslite_HasPrefix.en k]
def fn (k : Nat) (x : (BA × BA × U1)) (S : LL) (K : Kt R (Bool × U1)) : Option R :=
 internal_stringslite_HasPrefix.fn k x S K
def en (k : Nat) : Ent PG R := mkFn T_ok Tryz.func98 ps rs (C k) (.seq .auto (.seq .auto (.mask mr .auto))) ⟨tr,tr,tr⟩ (fn k)
end G.strings_HasPrefix
namespace G.blob_Within
abbrev ps : Mk := sS (sS [])
abbrev rs : Mk := sB []
abbrev mr : Mk := n4 (sB (n4 []))
def C (k : Nat) : List (Ent PG R) := [strings_HasPrefix.en k]
def fn (k : Nat) (x : (BA × BA × U1)) (S : LL) (K : Kt R (Bool × U1)) : Option R :=
 catStr x.2.1 (bs [47]) fun s1 => strings_HasPrefix.fn k (x.1,s1,()) S K
def en (k : Nat) : Ent PG R := mkFn T_ok Tryz.func151 ps rs (C k) (.seq .auto (.seq .auto (.mask mr .auto))) ⟨tr,tr,tr⟩ (fn k)
end G.blob_Within
namespace G.action_checkOutputs_1
abbrev ps : Mk := sS (sP [])
abbrev rs : Mk := sB []
abbrev mr : Mk := n3 (sB (n3 []))
def C (k : Nat) : List (Ent PG R) := [blob_Within.en k]
def fn (k : Nat) (x : (BA × N2 × U1)) (S : LL) (K : Kt R (Bool × U1)) : Option R :=
 objAt S x.2.1.1 fun ty c1 => ldStr c1 x.2.1.2 fun s2 => blob_Within.fn k (s2,x.1,()) S K
def en (k : Nat) : Ent PG R := mkFn T_ok Tryz.func150 ps rs (C k) (.seq .auto (.seq (.own [(0,1)]) (.mask mr .auto))) ⟨tr,tr,tr⟩ (fn k)
end G.action_checkOutputs_1
namespace G.slices_IndexFunc_s_string_string_at_action_checkOutputs_1
abbrev ps : Mk := sL 1 (sh (.fn 150 [.ptr]) [])
abbrev rs : Mk := sI []
abbrev e0 : Mk := nM 19 []
abbrev m0 : Mk := sL 1 (sh (.fn 150 [.ptr]) (n5 (sI (sI (nX [])))))
abbrev mr : Mk := n4 (sI (nM 14 []))
abbrev T0 := LL × (N2 × U1) × Int × Int × U1
def C (k : Nat) : List (Ent PG R) := [action_checkOutputs_1.en k]
def b0 (k : Nat) (J0 : Kt R (U1)) (Jret : Kt R (Int × U1)) (rec : Kt R T0) (x : T0) (S : LL) : Option R :=
 ifB (decide (x.2.2.2.1 < x.2.2.1)) (idxL x.1 x.2.2.2.1 fun v1 => asStr (leaf v1 0) fun s2 => action_checkOutputs_1.fn k (s2,x.2.1) S fun r3 S => ifB r3.1 (Jret x.2.2.2 S) (rec (x.1,x.2.1,x.2.2.1,(IntKind.wrap .i64 (x.2.2.2.1 + 1)),()) S)) (J0 (()) S)
def L0 (k : Nat) : Pc PG R (.loop (su Tryz.f67 37)) := mkLoop T_ok (C k) _ m0 k (.seq .auto (.seq (.cond .auto (.mask e0 .auto)) (.seq (.block (.seq .auto (.seq .auto (.cond (.seq .auto (.mask mr .auto)) .auto)))) .auto))) ⟨tr,⟨tr,tr⟩,⟨tr,tr,⟨tr,tr⟩,tr⟩,tr⟩ (fun K => b0 k (kX K 0 e0) (kR K mr))
def fn (k : Nat) (x : (LL × (N2 × U1) × U1)) (S : LL) (K : Kt R (Int × U1)) : Option R :=
 rounds (b0 k (fun o4 S => K (-1,()) S) K) k (x.1,x.2.1,(x.1.length : Int),0,()) S
def en (k : Nat) : Ent PG R := mkFn T_ok Tryz.func67 ps rs (C k) (.seq .auto (.seq (.seq .auto (.block (.piece (L0 k).h))) (.seq .auto (.mask mr .auto)))) ⟨tr,⟨tr,(L0 k).ok⟩,tr,tr⟩ (fn k)
end G.slices_IndexFunc_s_string_string_at_action_checkOutputs_1
namespace G.slices_ContainsFunc_s_string_string_at_action_checkOutputs_1
abbrev ps : Mk := sL 1 (sh (.fn 150 [.ptr]) [])
abbrev rs : Mk := sB []
abbrev mr : Mk := n4 (sB (n4 []))
def C (k : Nat) : List (Ent PG R) := [slices_IndexFunc_s_string_string_at_action_checkOutputs_1.en k]
def fn (k : Nat) (x : (LL × (N2 × U1) × U1)) (S : LL) (K : Kt R (Bool × U1)) : Option R :=
 slices_IndexFunc_s_string_string_at_action_checkOutputs_1.fn k x S fun r1 S => K ((decide (r1.1 ≥ 0)),()) S
def en (k : Nat) : Ent PG R := mkFn T_ok Tryz.func37 ps rs (C k) (.seq .auto (.seq .auto (.mask mr .auto))) ⟨tr,tr,tr⟩ (fn k)
end G.slices_ContainsFunc_s_string_string_at_action_checkOutputs_1
namespace G.action_checkOutputs
abbrev ps : Mk := sL 1 []
abbrev rs : Mk := sI []
abbrev e0 : Mk := sL 1 (nM 44 [])
abbrev e2 : Mk := nM 45 []
abbrev m0 : Mk := sL 1 (nM 12 (sL 1 (sI (sI (nM 29 [])))))
abbrev m1 : Mk := sL 1 (nM 34 (sL 1 (sI (sI (n7 [])))))
abbrev mr : Mk := n2 (sI (nM 42 []))
abbrev T1 := Int × U1
abbrev T0 := LL × LL × Int × Int × U1
def C (k : Nat) : List (Ent PG R) := [blob_IsPath.en k,slices_ContainsFunc_s_string_string_at_action_checkOutputs_1.en k]
def b1 (k : Nat) (J2 : Kt R (U1)) (Jret : Kt R T1) (rec : Kt R T0) (x : T0) (S : LL) : Option R :=
 ifB (decide (x.2.2.2.1 < x.2.2.1)) (idxL x.2.1 x.2.2.2.1 fun v7 => asStr (leaf v7 0) fun s8 => newObj S (.obj 9 [(.str (bs []))]) fun i9 S => objAt S i9 fun ty c10 => stO c10 0 [(.str s8)] fun c11 => setS (S.set i9 (ty c11)) fun S => slices_ContainsFunc_s_string_string_at_action_checkOutputs_1.fn k (x.1,((i9,0),()),()) S fun r12 S => ifB r12.1 (Jret ((12 : Int),()) S) (rec (x.1,x.2.1,x.2.2.1,(IntKind.wrap .i64 (x.2.2.2.1 + 1)),()) S)) (J2 (()) S)
def L1 (k : Nat) : Pc PG R (.loop (su Tryz.f106 303)) := mkLoop T_ok (C k) _ m1 k (.seq .auto (.seq (.cond .auto (.mask e2 .auto)) (.seq (.block (.seq (.own [(2,1),(3,1)]) (.seq .auto (.cond (.seq .auto (.mask mr .auto)) .auto)))) .auto))) ⟨tr,⟨tr,tr⟩,⟨tr,tr,⟨tr,tr⟩,tr⟩,tr⟩ (fun K => b1 k (kX K 2 e2) (kR K mr))
def b0 (k : Nat) (J0 : Kt R (LL × U1)) (Jret : Kt R T1) (rec : Kt R T0) (x : T0) (S : LL) : Option R :=
 ifB (decide (x.2.2.2.1 < x.2.2.1)) (idxL x.2.1 x.2.2.2.1 fun v1 => asStr (leaf v1 0) fun s2 => blob_IsPath.fn k (s2,()) S fun r3 S => ifB (!r3.1) (Jret ((3 : Int),()) S) (ifB (decide (x.2.2.2.1 > 0)) (idxL x.1 (IntKind.wrap .i64 (x.2.2.2.1 - 1)) fun v4 => asStr (leaf v4 0) fun s5 => ifB (strLt s2 s5 || strEq s2 s5) (Jret ((8 : Int),()) S) (rec (x.1,x.2.1,x.2.2.1,(IntKind.wrap .i64 (x.2.2.2.1 + 1)),()) S)) (rec (x.1,x.2.1,x.2.2.1,(IntKind.wrap .i64 (x.2.2.2.1 + 1)),()) S))) (J0 (x.1,()) S)
def L0 (k : Nat) : Pc PG R (.loop (su Tryz.f106 151)) := mkLoop T_ok (C k) _ m0 k (.seq .auto (.seq (.cond .auto (.mask e0 .auto)) (.seq (.block (.seq .auto (.seq (.seq .auto (.cond (.seq .auto (.mask mr .auto)) .auto)) (.seq .auto (.cond (.seq .auto (.mask mr .auto)) .auto))))) .auto))) ⟨tr,⟨tr,tr⟩,⟨tr,⟨tr,⟨tr,tr⟩,tr⟩,tr,⟨tr,tr⟩,tr⟩,tr⟩ (fun K => b0 k (kX K 0 e0) (kR K mr))
def fn0 (k : Nat) (x : (LL × U1)) (S : LL) (K : Kt R T1) : Option R :=
 ifB ((x.1.length : Int) == 0) (K (9,()) S) (ifB (decide ((x.1.length : Int) > 100)) (K (2,()) S) (rounds (b0 k (fun o6 S => rounds (b1 k (fun o13 S => K (0,()) S) K) k (o6.1,o6.1,(o6.1.length : Int),0,()) S) K) k (x.1,x.1,(x.1.length : Int),0,()) S))
def en0 (k : Nat) : Ent PG R := mkFn T_ok Tryz.func106 ps rs (C k) (.seq .auto (.seq (.seq .auto (.cond (.seq .auto (.mask mr .auto)) .auto)) (.seq (.seq .auto (.cond (.seq .auto (.mask mr .auto)) .auto)) (.seq (.seq .auto (.block (.piece (L0 k).h))) (.seq (.seq .auto (.block (.piece (L1 k).h))) (.seq .auto (.mask mr .auto))))))) ⟨tr,⟨tr,⟨tr,tr⟩,tr⟩,⟨tr,⟨tr,tr⟩,tr⟩,⟨tr,(L0 k).ok⟩,⟨tr,(L1 k).ok⟩,tr,tr⟩ (fn0 k)
def fn (k : Nat) (x : (LL × U1)) (S : LL) (K : Kt R T1) : Option R := popK rs 6 S (fn0 k x S fun r S => some (resE rs r,S)) K
def en (k : Nat) : Ent PG R := mkPop (rs := rs) (en0 k).ok
end G.action_checkOutputs
namespace G.action_CheckAction
abbrev ps : Mk := sA [.str,.sl 1,.sl 2,.sl 1,.sl 2,jI] []
abbrev rs : Mk := sI []
abbrev e0 : Mk := n1 (sX [.str,.sl 1,.sl 2,.sl 1,.sl 2,jI] (nM 58 []))
abbrev m0 : Mk := n1 (sX [.str,.sl 1,.sl 2,.sl 1,.sl 2,jI] (nM 20 (sL 1 (sI (sI (nM 35 []))))))
abbrev mr : Mk := n2 (sI (nM 57 []))
abbrev T1 := (BA × LL × LL × LL × LL × Int × U1) × U1
abbrev T0 := (BA × LL × LL × LL × LL × Int × U1) × LL × Int × Int × U1
def C (k : Nat) : List (Ent PG R) := [blob_IsDigest.en k,action_checkCommand.en k,action_checkVars.en k,action_checkOutputs.en k]
def b0 (k : Nat) (J0 : Kt R T1) (Jret : Kt R (Int × U1)) (rec : Kt R T0) (x : T0) (S : LL) : Option R :=
 ifB (decide (x.2.2.2.1 < x.2.2.1)) (idxL x.2.1 x.2.2.2.1 fun v2 => asSl 1 (leaf v2 0) fun l3 => action_checkCommand.fn k (l3,()) S fun r4 S => ifB (r4.1 != 0) (Jret r4 S) (rec (x.1,x.2.1,x.2.2.1,(IntKind.wrap .i64 (x.2.2.2.1 + 1)),()) S)) (J0 (x.1,()) S)
def L0 (k : Nat) : Pc PG R (.loop (su Tryz.f75 303)) := mkLoop T_ok (C k) _ m0 k (.seq .auto (.seq (.cond .auto (.mask e0 .auto)) (.seq (.block (.seq .auto (.seq .auto (.seq .auto (.cond (.seq .auto (.mask mr .auto)) .auto))))) .auto))) ⟨tr,⟨tr,tr⟩,⟨tr,tr,tr,⟨tr,tr⟩,tr⟩,tr⟩ (fun K => b0 k (kX K 0 e0) (kR K mr))
def fn (k : Nat) (x : T1) (S : LL) (K : Kt R (Int × U1)) : Option R :=
 blob_IsDigest.fn k (x.1.1,()) S fun r1 S => ifB (!r1.1) (K (3,()) S) (ifB ((x.1.2.1.length : Int) == 0) (K (9,()) S) (ifB (decide ((x.1.2.1.length : Int) > 50)) (K (2,()) S) (rounds (b0 k (fun o5 S => action_checkVars.fn k (o5.1.2.2.1,()) S fun r6 S => ifB (r6.1 != 0) (K r6 S) (action_checkOutputs.fn k (o5.1.2.2.2.1,()) S fun r7 S => ifB (r7.1 != 0) (K r7 S) (action_checkVars.fn k (o5.1.2.2.2.2.1,()) S fun r8 S => ifB (r8.1 != 0) (K r8 S) (ifB (decide (o5.1.2.2.2.2.2.1 < 1)) (K (1,()) S) (ifB (decide (o5.1.2.2.2.2.2.1 > 100000)) (K (1,()) S) (K (0,()) S)))))) K) k (x.1,x.1.2.1,(x.1.2.1.length : Int),0,()) S)))
def en (k : Nat) : Ent PG R := mkFn T_ok Tryz.func75 ps rs (C k) (.seq .auto (.seq (.seq .auto (.cond (.seq .auto (.mask mr .auto)) .auto)) (.seq (.seq .auto (.cond (.seq .auto (.mask mr .auto)) .auto)) (.seq (.seq .auto (.cond (.seq .auto (.mask mr .auto)) .auto)) (.seq (.seq .auto (.block (.piece (L0 k).h))) (.seq (.seq .auto (.seq .auto (.cond (.seq .auto (.mask mr .auto)) .auto))) (.seq (.seq .auto (.seq .auto (.cond (.seq .auto (.mask mr .auto)) .auto))) (.seq (.seq .auto (.seq .auto (.cond (.seq .auto (.mask mr .auto)) .auto))) (.seq (.seq .auto (.cond (.seq .auto (.mask mr .auto)) .auto)) (.seq .auto (.mask mr .auto))))))))))) ⟨tr,⟨tr,⟨tr,tr⟩,tr⟩,⟨tr,⟨tr,tr⟩,tr⟩,⟨tr,⟨tr,tr⟩,tr⟩,⟨tr,(L0 k).ok⟩,⟨tr,tr,⟨tr,tr⟩,tr⟩,⟨tr,tr,⟨tr,tr⟩,tr⟩,⟨tr,tr,⟨tr,tr⟩,tr⟩,⟨tr,⟨tr,tr⟩,tr⟩,tr,tr⟩ (fn k)
end G.action_CheckAction
namespace G.steps_checkRule
abbrev ps : Mk := sA [.str,.str,.sl 1,.sl 2,.sl 1,.sl 2,jI,.sl 1] []
abbrev rs : Mk := sI []
abbrev e0 : Mk := nM 44 []
abbrev m0 : Mk := n1 (sX [.str,.str,.sl 1,.sl 2,.sl 1,.sl 2,jI,.sl 1] (nM 19 (sL 1 (sI (sI (nM 20 []))))))
abbrev mr : Mk := n2 (sI (nM 41 []))
abbrev T0 := (BA × BA × LL × LL × LL × LL × Int × LL × U1) × LL × Int × Int × U1
def C (k : Nat) : List (Ent PG R) := [blob_IsPath.en k,action_CheckAction.en k]
def b0 (k : Nat) (J0 : Kt R (U1)) (Jret : Kt R (Int × U1)) (rec : Kt R T0) (x : T0) (S : LL) : Option R :=
 ifB (decide (x.2.2.2.1 < x.2.2.1)) (idxL x.2.1 x.2.2.2.1 fun v3 => asStr (leaf v3 0) fun s4 => blob_IsPath.fn k (s4,()) S fun r5 S => ifB (!r5.1) (Jret ((3 : Int),()) S) (ifB (decide (x.2.2.2.1 > 0)) (idxL x.1.2.2.2.2.2.2.2.1 (IntKind.wrap .i64 (x.2.2.2.1 - 1)) fun v6 => asStr (leaf v6 0) fun s7 => ifB (strLt s4 s7 || strEq s4 s7) (Jret ((8 : Int),()) S) (rec (x.1,x.2.1,x.2.2.1,(IntKind.wrap .i64 (x.2.2.2.1 + 1)),()) S)) (rec (x.1,x.2.1,x.2.2.1,(IntKind.wrap .i64 (x.2.2.2.1 + 1)),()) S))) (J0 (()) S)
def L0 (k : Nat) : Pc PG R (.loop (su Tryz.f48 303)) := mkLoop T_ok (C k) _ m0 k (.seq .auto (.seq (.cond .auto (.mask e0 .auto)) (.seq (.block (.seq .auto (.seq (.seq .auto (.cond (.seq .auto (.mask mr .auto)) .auto)) (.seq .auto (.cond (.seq .auto (.mask mr .auto)) .auto))))) .auto))) ⟨tr,⟨tr,tr⟩,⟨tr,⟨tr,⟨tr,tr⟩,tr⟩,tr,⟨tr,tr⟩,tr⟩,tr⟩ (fun K => b0 k (kX K 0 e0) (kR K mr))
def fn (k : Nat) (x : ((BA × BA × LL × LL × LL × LL × Int × LL × U1) × U1)) (S : LL) (K : Kt R (Int × U1)) : Option R :=
 blob_IsPath.fn k (x.1.1,()) S fun r1 S => ifB (!r1.1) (K (3,()) S) (action_CheckAction.fn k ((x.1.2.1,x.1.2.2.1,x.1.2.2.2.1,x.1.2.2.2.2.1,x.1.2.2.2.2.2.1,x.1.2.2.2.2.2.2.1,()),()) S fun r2 S => ifB (r2.1 != 0) (K r2 S) (ifB (decide ((x.1.2.2.2.2.2.2.2.1.length : Int) > 1000)) (K (2,()) S) (rounds (b0 k (fun o8 S => K (0,()) S) K) k (x.1,x.1.2.2.2.2.2.2.2.1,(x.1.2.2.2.2.2.2.2.1.length : Int),0,()) S)))
def en (k : Nat) : Ent PG R := mkFn T_ok Tryz.func48 ps rs (C k) (.seq .auto (.seq (.seq .auto (.cond (.seq .auto (.mask mr .auto)) .auto)) (.seq (.seq .auto (.seq .auto (.cond (.seq .auto (.mask mr .auto)) .auto))) (.seq (.seq .auto (.cond (.seq .auto (.mask mr .auto)) .auto)) (.seq (.seq .auto (.block (.piece (L0 k).h))) (.seq .auto (.mask mr .auto))))))) ⟨tr,⟨tr,⟨tr,tr⟩,tr⟩,⟨tr,tr,⟨tr,tr⟩,tr⟩,⟨tr,⟨tr,tr⟩,tr⟩,⟨tr,(L0 k).ok⟩,tr,tr⟩ (fn k)
end G.steps_checkRule
namespace G.steps_above
abbrev ps : Mk := sS []
abbrev rs : Mk := sO 9 1 []
abbrev e0 : Mk := n3 (sO 9 1 (nM 18 []))
abbrev m0 : Mk := sS (n2 (sO 9 1 (n2 (sI (sI (nM 14 []))))))
abbrev mr : Mk := n2 (sO 9 1 (nM 19 []))
abbrev T0 := BA × LL × Int × Int × U1
def C (k : Nat) : List (Ent PG R) := []
def b0 (k : Nat) (J0 : Kt R (LL × U1)) (rec : Kt R T0) (x : T0) (S : LL) : Option R :=
 ifB (decide (x.2.2.2.1 < x.2.2.1)) (idxStr x.1 x.2.2.2.1 fun c1 => ifB (c1 == 47) (slStr x.1 (0 : Int) x.2.2.2.1 fun s2 => app 16 x.2.1 [(.str s2)] fun l3 => rec (x.1,l3,x.2.2.1,(IntKind.wrap .i64 (x.2.2.2.1 + 1)),()) S) (rec (x.1,x.2.1,x.2.2.1,(IntKind.wrap .i64 (x.2.2.2.1 + 1)),()) S)) (J0 (x.2.1,()) S)
def L0 (k : Nat) : Pc PG R (.loop (su Tryz.f76 75)) := mkLoop T_ok (C k) _ m0 k (.seq .auto (.seq (.cond .auto (.mask e0 .auto)) (.seq (.block (.seq .auto (.seq .auto (.cond (.own [(0,1)]) .auto)))) .auto))) ⟨tr,⟨tr,tr⟩,⟨tr,tr,tr,tr⟩,tr⟩ (fun K => b0 k (kX K 0 e0))
def fn (k : Nat) (x : (BA × U1)) (S : LL) (K : Kt R (LL × U1)) : Option R :=
 rounds (b0 k K) k (x.1,[],(x.1.size : Int),0,()) S
def en (k : Nat) : Ent PG R := mkFn T_ok Tryz.func76 ps rs (C k) (.seq .auto (.seq .auto (.seq (.seq .auto (.block (.piece (L0 k).h))) (.seq (.own [(0,1)]) (.mask mr .auto))))) ⟨tr,tr,⟨tr,(L0 k).ok⟩,tr,tr⟩ (fn k)
end G.steps_above
namespace G.steps_tangleOf
abbrev ps : Mk := sL 8 []
abbrev rs : Mk := sA [.map,.map,.map,.map] []
abbrev e0 : Mk := n2 (sX [.nilm,.nilm,.nilm,.nilm] (sX [.map,.map,.map,.map] (nM 68 [])))
abbrev e2 : Mk := n2 (sX [.nilm,.nilm,.nilm,.nilm] (sX [.map,.map,.map,.map] (n1 (sX [.str,.str,.sl 1,.sl 2,.sl 1,.sl 2,jI,.sl 1] (nM 13 (sL 8 (sI (sI (nM 50 [])))))))))
abbrev e4 : Mk := n2 (sX [.nilm,.nilm,.nilm,.nilm] (sX [.map,.map,.map,.map] (n1 (sX [.str,.str,.sl 1,.sl 2,.sl 1,.sl 2,jI,.sl 1] (nM 13 (sL 8 (sI (sI (n5 (sL 1 (sI (sI (nM 42 [])))))))))))))
abbrev e6 : Mk := n2 (sX [.nilm,.nilm,.nilm,.nilm] (sX [.map,.map,.map,.map] (nM 15 (sL 8 (sI (sI (nM 50 [])))))))
abbrev e8 : Mk := n2 (sX [.nilm,.nilm,.nilm,.nilm] (sX [.map,.map,.map,.map] (nM 15 (sL 8 (sI (sI (nM 27 (sL 1 (sI (sI (nM 20 [])))))))))))
abbrev m2 : Mk := n2 (sX [.nilm,.nilm,.nilm,.nilm] (sX [.map,.map,.map,.map] (n1 (sX [.str,.str,.sl 1,.sl 2,.sl 1,.sl 2,jI,.sl 1] (nM 13 (sL 8 (sI (sI (n5 (sL 1 (sI (sI (n7 (sO 9 1 (sI (sI (nM 32 [])))))))))))))))))
abbrev m4 : Mk := n2 (sX [.nilm,.nilm,.nilm,.nilm] (sX [.map,.map,.map,.map] (nM 15 (sL 8 (sI (sI (nM 27 (sL 1 (sI (sI (n7 (sO 9 1 (sI (sI (nX [])))))))))))))))
abbrev mr : Mk := n2 (sX [.map,.map,.map,.map] (nM 69 []))
abbrev T6 := U1 × U1 × U1 × U1 × U1
abbrev T5 := Nat × Nat × Nat × Nat × U1
abbrev T4 := T6 × T5 × LL × Int × Int × U1
abbrev T3 := T6 × T5 × LL × Int × Int × LL × Int × Int × U1
abbrev T2 := T6 × T5 × LL × Int × Int × LL × Int × Int × LL × Int × Int × U1
abbrev T1 := T6 × T5 × (BA × BA × LL × LL × LL × LL × Int × LL × U1) × LL × Int × Int × LL × Int × Int × U1
abbrev T0 := T6 × T5 × (BA × BA × LL × LL × LL × LL × Int × LL × U1) × LL × Int × Int × LL × Int × Int × LL × Int × Int × U1
def C (k : Nat) : List (Ent PG R) := [steps_above.en k]
def b2 (k : Nat) (J4 : Kt R T1) (rec : Kt R T0) (x : T0) (S : LL) : Option R :=
 ifB (decide (x.2.2.2.2.2.2.2.2.2.2.2.1 < x.2.2.2.2.2.2.2.2.2.2.1)) (idxL x.2.2.2.2.2.2.2.2.2.1 x.2.2.2.2.2.2.2.2.2.2.2.1 fun v19 => asStr (leaf v19 0) fun s20 => mpAt S x.2.1.2.2.1 .str fun m21 => setS (S.set x.2.1.2.2.1 (.mp .str (mapPut m21 (.str s20) (.bool true)))) fun S => rec (((),(),(),(),()),x.2.1,x.2.2.1,x.2.2.2.1,x.2.2.2.2.1,x.2.2.2.2.2.1,x.2.2.2.2.2.2.1,x.2.2.2.2.2.2.2.1,x.2.2.2.2.2.2.2.2.1,x.2.2.2.2.2.2.2.2.2.1,x.2.2.2.2.2.2.2.2.2.2.1,(IntKind.wrap .i64 (x.2.2.2.2.2.2.2.2.2.2.2.1 + 1)),()) S) (J4 (((),(),(),(),()),x.2.1,x.2.2.1,x.2.2.2.1,x.2.2.2.2.1,x.2.2.2.2.2.1,x.2.2.2.2.2.2.1,x.2.2.2.2.2.2.2.1,x.2.2.2.2.2.2.2.2.1,()) S)
def L2 (k : Nat) : Pc PG R (.loop (su Tryz.f49 20550859)) := mkLoop T_ok (C k) _ m2 k (.seq .auto (.seq (.cond .auto (.mask e4 .auto)) (.seq (.block (.seq .auto .auto)) .auto))) ⟨tr,⟨tr,tr⟩,⟨tr,tr⟩,tr⟩ (fun K => b2 k (kX K 4 e4))
def b4 (k : Nat) (J8 : Kt R T3) (rec : Kt R T2) (x : T2) (S : LL) : Option R :=
 ifB (decide (x.2.2.2.2.2.2.2.2.2.2.1 < x.2.2.2.2.2.2.2.2.2.1)) (idxL x.2.2.2.2.2.2.2.2.1 x.2.2.2.2.2.2.2.2.2.2.1 fun v28 => asStr (leaf v28 0) fun s29 => mpAt S x.2.1.2.2.2.1 .str fun m30 => setS (S.set x.2.1.2.2.2.1 (.mp .str (mapPut m30 (.str s29) (.bool true)))) fun S => rec (((),(),(),(),()),x.2.1,x.2.2.1,x.2.2.2.1,x.2.2.2.2.1,x.2.2.2.2.2.1,x.2.2.2.2.2.2.1,x.2.2.2.2.2.2.2.1,x.2.2.2.2.2.2.2.2.1,x.2.2.2.2.2.2.2.2.2.1,(IntKind.wrap .i64 (x.2.2.2.2.2.2.2.2.2.2.1 + 1)),()) S) (J8 (((),(),(),(),()),x.2.1,x.2.2.1,x.2.2.2.1,x.2.2.2.2.1,x.2.2.2.2.2.1,x.2.2.2.2.2.2.1,x.2.2.2.2.2.2.2.1,()) S)
def L4 (k : Nat) : Pc PG R (.loop (su Tryz.f49 20552907)) := mkLoop T_ok (C k) _ m4 k (.seq .auto (.seq (.cond .auto (.mask e8 .auto)) (.seq (.block (.seq .auto .auto)) .auto))) ⟨tr,⟨tr,tr⟩,⟨tr,tr⟩,tr⟩ (fun K => b4 k (kX K 8 e8))
def b1 (k : Nat) (J2 : Kt R (T6 × T5 × (BA × BA × LL × LL × LL × LL × Int × LL × U1) × LL × Int × Int × U1)) (rec : Kt R T1) (x : T1) (S : LL) : Option R :=
 ifB (decide (x.2.2.2.2.2.2.2.2.1 < x.2.2.2.2.2.2.2.1)) (idxL x.2.2.2.2.2.2.1 x.2.2.2.2.2.2.2.2.1 fun v15 => asStr (leaf v15 0) fun s16 => mpAt S x.2.1.1 .str fun m17 => setS (S.set x.2.1.1 (.mp .str (mapPut m17 (.str s16) (.bool true)))) fun S => steps_above.fn k (s16,()) S fun r18 S => rounds (b2 k (fun o22 S => rec (((),(),(),(),()),o22.2.1,o22.2.2.1,o22.2.2.2.1,o22.2.2.2.2.1,o22.2.2.2.2.2.1,o22.2.2.2.2.2.2.1,o22.2.2.2.2.2.2.2.1,(IntKind.wrap .i64 (o22.2.2.2.2.2.2.2.2.1 + 1)),()) S)) k (((),(),(),(),()),x.2.1,x.2.2.1,x.2.2.2.1,x.2.2.2.2.1,x.2.2.2.2.2.1,x.2.2.2.2.2.2.1,x.2.2.2.2.2.2.2.1,x.2.2.2.2.2.2.2.2.1,r18.1,(r18.1.length : Int),0,()) S) (J2 (((),(),(),(),()),x.2.1,x.2.2.1,x.2.2.2.1,x.2.2.2.2.1,x.2.2.2.2.2.1,()) S)
def L1 (k : Nat) : Pc PG R (.loop (su Tryz.f49 38091)) := mkLoop T_ok (C k) _ e4 k (.seq .auto (.seq (.cond .auto (.mask e2 .auto)) (.seq (.block (.seq .auto (.seq .auto (.seq .auto (.block (.piece (L2 k).h)))))) .auto))) ⟨tr,⟨tr,tr⟩,⟨tr,tr,tr,(L2 k).ok⟩,tr⟩ (fun K => b1 k (kX K 2 e2))
def b3 (k : Nat) (J6 : Kt R T4) (rec : Kt R T3) (x : T3) (S : LL) : Option R :=
 ifB (decide (x.2.2.2.2.2.2.2.1 < x.2.2.2.2.2.2.1)) (idxL x.2.2.2.2.2.1 x.2.2.2.2.2.2.2.1 fun v24 => asStr (leaf v24 0) fun s25 => mpAt S x.2.1.2.1 .str fun m26 => setS (S.set x.2.1.2.1 (.mp .str (mapPut m26 (.str s25) (.bool true)))) fun S => steps_above.fn k (s25,()) S fun r27 S => rounds (b4 k (fun o31 S => rec (((),(),(),(),()),o31.2.1,o31.2.2.1,o31.2.2.2.1,o31.2.2.2.2.1,o31.2.2.2.2.2.1,o31.2.2.2.2.2.2.1,(IntKind.wrap .i64 (o31.2.2.2.2.2.2.2.1 + 1)),()) S)) k (((),(),(),(),()),x.2.1,x.2.2.1,x.2.2.2.1,x.2.2.2.2.1,x.2.2.2.2.2.1,x.2.2.2.2.2.2.1,x.2.2.2.2.2.2.2.1,r27.1,(r27.1.length : Int),0,()) S) (J6 (((),(),(),(),()),x.2.1,x.2.2.1,x.2.2.2.1,x.2.2.2.2.1,()) S)
def L3 (k : Nat) : Pc PG R (.loop (su Tryz.f49 40139)) := mkLoop T_ok (C k) _ e8 k (.seq .auto (.seq (.cond .auto (.mask e6 .auto)) (.seq (.block (.seq .auto (.seq .auto (.seq .auto (.block (.piece (L4 k).h)))))) .auto))) ⟨tr,⟨tr,tr⟩,⟨tr,tr,tr,(L4 k).ok⟩,tr⟩ (fun K => b3 k (kX K 6 e6))
def b0 (k : Nat) (J0 : Kt R (T6 × T5 × U1)) (rec : Kt R T4) (x : T4) (S : LL) : Option R :=
 ifB (decide (x.2.2.2.2.1 < x.2.2.2.1)) (idxL x.2.2.1 x.2.2.2.2.1 fun v5 => mat 8 v5 fun c6 => asStr (c6.getD 0 .any) fun s7 => asStr (c6.getD 1 .any) fun s8 => asSl 1 (c6.getD 2 .any) fun l9 => asSl 2 (c6.getD 3 .any) fun l10 => asSl 1 (c6.getD 4 .any) fun l11 => asSl 2 (c6.getD 5 .any) fun l12 => asInt .i64 (c6.getD 6 .any) fun n13 => asSl 1 (c6.getD 7 .any) fun l14 => rounds (b1 k (fun o23 S => rounds (b3 k (fun o32 S => rec (((),(),(),(),()),o32.2.1,o32.2.2.1,o32.2.2.2.1,(IntKind.wrap .i64 (o32.2.2.2.2.1 + 1)),()) S)) k (((),(),(),(),()),o23.2.1,o23.2.2.2.1,o23.2.2.2.2.1,o23.2.2.2.2.2.1,o23.2.2.1.2.2.2.2.2.2.2.1,(o23.2.2.1.2.2.2.2.2.2.2.1.length : Int),0,()) S)) k (((),(),(),(),()),x.2.1,(s7,s8,l9,l10,l11,l12,n13,l14,()),x.2.2.1,x.2.2.2.1,x.2.2.2.2.1,l11,(l11.length : Int),0,()) S) (J0 (((),(),(),(),()),x.2.1,()) S)
def L0 (k : Nat) : Pc PG R (.loop (su Tryz.f49 75)) := mkLoop T_ok (C k) _ e6 k (.seq .auto (.seq (.cond .auto (.mask e0 .auto)) (.seq (.block (.seq .auto (.seq (.seq .auto (.block (.piece (L1 k).h))) (.seq .auto (.block (.piece (L3 k).h)))))) .auto))) ⟨tr,⟨tr,tr⟩,⟨tr,⟨tr,(L1 k).ok⟩,tr,(L3 k).ok⟩,tr⟩ (fun K => b0 k (kX K 0 e0))
def fn (k : Nat) (x : (LL × U1)) (S : LL) (K : Kt R (T5 × U1)) : Option R :=
 newObj S (.mp .str []) fun i1 S => newObj S (.mp .str []) fun i2 S => newObj S (.mp .str []) fun i3 S => newObj S (.mp .str []) fun i4 S => rounds (b0 k (fun o33 S => K o33.2 S)) k (((),(),(),(),()),(i1,i2,i3,i4,()),x.1,(x.1.length : Int),0,()) S
def en (k : Nat) : Ent PG R := mkFn T_ok Tryz.func49 ps rs (C k) (.seq .auto (.seq .auto (.seq (.seq .auto (.block (.piece (L0 k).h))) (.seq .auto (.mask mr .auto))))) ⟨tr,tr,⟨tr,(L0 k).ok⟩,tr,tr⟩ (fn k)
end G.steps_tangleOf
namespace G.steps_tangle_clashes_1
abbrev ps : Mk := sS (sP [])
abbrev rs : Mk := sB []
abbrev mr : Mk := n3 (sB (nX []))
def C (k : Nat) : List (Ent PG R) := []
def fn (k : Nat) (x : (BA × N2 × U1)) (S : LL) (K : Kt R (Bool × U1)) : Option R :=
 objAt S x.2.1.1 fun ty c1 => ldRaw c1 (x.2.1.2 + 0) fun v2 => asMap v2 fun i3 => mpAt S i3 .str fun m4 => asBool ((mapGet m4 (.str x.1)).getD (.bool false)) fun b5 => ifB b5 (K (true,()) S) (objAt S x.2.1.1 fun ty c6 => ldRaw c6 (x.2.1.2 + 1) fun v7 => asMap v7 fun i8 => mpAt S i8 .str fun m9 => asBool ((mapGet m9 (.str x.1)).getD (.bool false)) fun b10 => K (b10,()) S)
def en (k : Nat) : Ent PG R := mkFn T_ok Tryz.func77 ps rs (C k) (.seq .auto (.seq (.own [(1,3),(6,3)]) (.mask mr .auto))) ⟨tr,tr,tr⟩ (fn k)
end G.steps_tangle_clashes_1
namespace G.slices_IndexFunc_s_string_string_at_steps_tangle_clashes_1
abbrev ps : Mk := sL 1 (sh (.fn 77 [.ptr]) [])
abbrev rs : Mk := sI []
abbrev e0 : Mk := nM 19 []
abbrev m0 : Mk := sL 1 (sh (.fn 77 [.ptr]) (n5 (sI (sI (nX [])))))
abbrev mr : Mk := n4 (sI (nM 14 []))
abbrev T0 := LL × (N2 × U1) × Int × Int × U1
def C (k : Nat) : List (Ent PG R) := [steps_tangle_clashes_1.en k]
def b0 (k : Nat) (J0 : Kt R (U1)) (Jret : Kt R (Int × U1)) (rec : Kt R T0) (x : T0) (S : LL) : Option R :=
 ifB (decide (x.2.2.2.1 < x.2.2.1)) (idxL x.1 x.2.2.2.1 fun v1 => asStr (leaf v1 0) fun s2 => steps_tangle_clashes_1.fn k (s2,x.2.1) S fun r3 S => ifB r3.1 (Jret x.2.2.2 S) (rec (x.1,x.2.1,x.2.2.1,(IntKind.wrap .i64 (x.2.2.2.1 + 1)),()) S)) (J0 (()) S)
def L0 (k : Nat) : Pc PG R (.loop (su Tryz.f67 37)) := mkLoop T_ok (C k) _ m0 k (.seq .auto (.seq (.cond .auto (.mask e0 .auto)) (.seq (.block (.seq .auto (.seq .auto (.cond (.seq .auto (.mask mr .auto)) .auto)))) .auto))) ⟨tr,⟨tr,tr⟩,⟨tr,tr,⟨tr,tr⟩,tr⟩,tr⟩ (fun K => b0 k (kX K 0 e0) (kR K mr))
def fn (k : Nat) (x : (LL × (N2 × U1) × U1)) (S : LL) (K : Kt R (Int × U1)) : Option R :=
 rounds (b0 k (fun o4 S => K (-1,()) S) K) k (x.1,x.2.1,(x.1.length : Int),0,()) S
def en (k : Nat) : Ent PG R := mkFn T_ok Tryz.func67 ps rs (C k) (.seq .auto (.seq (.seq .auto (.block (.piece (L0 k).h))) (.seq .auto (.mask mr .auto)))) ⟨tr,⟨tr,(L0 k).ok⟩,tr,tr⟩ (fn k)
end G.slices_IndexFunc_s_string_string_at_steps_tangle_clashes_1
namespace G.slices_ContainsFunc_s_string_string_at_steps_tangle_clashes_1
abbrev ps : Mk := sL 1 (sh (.fn 77 [.ptr]) [])
abbrev rs : Mk := sB []
abbrev mr : Mk := n4 (sB (n4 []))
def C (k : Nat) : List (Ent PG R) := [slices_IndexFunc_s_string_string_at_steps_tangle_clashes_1.en k]
def fn (k : Nat) (x : (LL × (N2 × U1) × U1)) (S : LL) (K : Kt R (Bool × U1)) : Option R :=
 slices_IndexFunc_s_string_string_at_steps_tangle_clashes_1.fn k x S fun r1 S => K ((decide (r1.1 ≥ 0)),()) S
def en (k : Nat) : Ent PG R := mkFn T_ok Tryz.func37 ps rs (C k) (.seq .auto (.seq .auto (.mask mr .auto))) ⟨tr,tr,tr⟩ (fn k)
end G.slices_ContainsFunc_s_string_string_at_steps_tangle_clashes_1
namespace G.steps_tangle_clashes
abbrev ps : Mk := sA [.map,.map,.map,.map] (sS [])
abbrev rs : Mk := sB []
abbrev mr : Mk := n4 (sB (nX []))
def C (k : Nat) : List (Ent PG R) := [slices_ContainsFunc_s_string_string_at_steps_tangle_clashes_1.en k,steps_above.en k]
def fn (k : Nat) (x : ((Nat × Nat × Nat × Nat × U1) × BA × U1)) (S : LL) (K : Kt R (Bool × U1)) : Option R :=
 newObj S (.obj 92 [(.map x.1.1),(.map x.1.2.1),(.map x.1.2.2.1),(.map x.1.2.2.2.1)]) fun i1 S => objAt S i1 fun ty c2 => ldRaw c2 3 fun v3 => asMap v3 fun i4 => mpAt S i4 .str fun m5 => asBool ((mapGet m5 (.str x.2.1)).getD (.bool false)) fun b6 => ifB b6 (K (true,()) S) (steps_above.fn k x.2 S fun r7 S => slices_ContainsFunc_s_string_string_at_steps_tangle_clashes_1.fn k (r7.1,((i1,0),()),()) S K)
def en (k : Nat) : Ent PG R := mkFn T_ok Tryz.func50 ps rs (C k) (.seq (.own [(0,1)]) (.seq (.own [(1,3)]) (.mask mr .auto))) ⟨tr,tr,tr⟩ (fn k)
end G.steps_tangle_clashes
namespace G.maps_Keys_map_int_bool_int_bool
abbrev ps : Mk := sh (.lf (.map)) []
abbrev rs : Mk := sh (.fn 80 [.ptr]) []
abbrev mr : Mk := n2 (sh (.fn 80 [.ptr]) (n1 []))
def C (k : Nat) : List (Ent PG R) := []
def fn (k : Nat) (x : (Nat × U1)) (S : LL) (K : Kt R ((N2 × U1) × U1)) : Option R :=
 newObj S (.obj 94 [(.map x.1)]) fun i1 S => K (((i1,0),()),()) S
def en (k : Nat) : Ent PG R := mkFn T_ok Tryz.func52 ps rs (C k) (.seq (.own [(0,1)]) (.seq .auto (.mask mr .auto))) ⟨tr,tr,tr⟩ (fn k)
end G.maps_Keys_map_int_bool_int_bool
namespace G.steps_plan_order_nils
abbrev ps : Mk := sP (sh (.lf (.nils)) [])
abbrev rs : Mk := sO 3 1 (sB [])
abbrev c0 : Mk := sP (sh (.lf (.nils)) (n4 (sQ 1 (sQ 1 (sI (sI (nM 23 (sL 1 (sI (sI (nM 19 (sL 1 (sI (sI (nM 83 [])))))))))))))))
abbrev c1 : Mk := sP (sh (.lf (.nils)) (n4 (sQ 1 (sQ 1 (sI (sI (sL 1 (nM 22 (sL 1 (sI (sI (nM 11 (sB (nM 93 []))))))))))))))
abbrev c2 : Mk := sP (sh (.lf (.nils)) (n4 (sQ 1 (sQ 1 (sI (sI (sL 1 (nM 22 (sL 1 (sI (sI (nM 105 []))))))))))))
abbrev c4 : Mk := sP (sh (.lf (.nils)) (n4 (sQ 1 (sQ 1 (sI (sI (nM 23 (sL 1 (sI (sI (nM 19 (sL 1 (sI (sI (sB (nM 82 []))))))))))))))))
abbrev c6 : Mk := sP (sh (.lf (.nils)) (n4 (sQ 1 (sQ 1 (sI (sI (n2 (sI (nM 20 (sL 1 (sI (sI (nM 19 (sL 1 (sI (sI (nM 83 [])))))))))))))))))
abbrev c7 : Mk := n1 (sh (.lf (.nils)) (n4 (sQ 1 (sQ 1 (sI (n4 (sQ 1 (sO 3 1 (sI (nM 125 []))))))))))
abbrev z0 : Mk := sP (sh (.lf (.nils)) (n4 (sQ 1 (sQ 1 (sI (nM 24 (sL 1 (sI (sI (nM 105 []))))))))))
abbrev e0 : Mk := sP (sh (.lf (.nils)) (n4 (sQ 1 (sQ 1 (sI (nM 132 []))))))
abbrev e4 : Mk := nM 14 (sO 3 1 (nM 126 []))
abbrev e8 : Mk := n1 (sh (.lf (.nils)) (n4 (sQ 1 (sQ 1 (sI (n4 (sQ 1 (sO 3 1 (nM 126 [])))))))))
abbrev m4 : Mk := n1 (sh (.lf (.nils)) (n4 (sQ 1 (sQ 1 (sI (n4 (sQ 1 (sO 3 1 (nM 112 (sL 1 (sI (sI (nM 11 [])))))))))))))
abbrev mr : Mk := n4 (sO 3 1 (sB (nM 135 [])))
abbrev T5 := U1 × N3 × N3 × Int × N3 × LL × U1
abbrev T4 := U1 × N3 × N3 × Int × N3 × LL × Int × U1
abbrev T3 := N2 × U1 × N3 × N3 × Int × LL × Int × Int × U1
abbrev T2 := U1 × N3 × N3 × Int × N3 × LL × LL × Int × Int × U1
abbrev T1 := N2 × U1 × N3 × N3 × Int × Int × LL × LL × Int × Int × U1
abbrev T0 := N2 × U1 × N3 × N3 × Int × Int × LL × Int × Int × LL × Int × Int × U1
def C (k : Nat) : List (Ent PG R) := []
def q6 (k : Nat) (Jnrm : Kt R T0)  (x : (N2 × U1 × N3 × N3 × Int × Int × Int × LL × Int × Int × LL × Int × Int × U1)) (S : LL) : Option R :=
 idxN x.2.2.2.1.2.2 x.2.2.2.2.2.2.1 fun v18 => objAt S x.2.2.2.1.1 fun ty c19 => asOwn 3 1 (c19.getD (x.2.2.2.1.2.1 + v18 * 1) .any) fun l20 => setS (S.set x.2.2.2.1.1 (ty (c19.set (x.2.2.2.1.2.1 + v18 * 1) (.sl 1 l20)))) fun S => app 8 l20 [(.int .i64 x.2.2.2.2.2.1)] fun l21 => idxN x.2.2.2.1.2.2 x.2.2.2.2.2.2.1 fun v22 => objAt S x.2.2.2.1.1 fun ty c23 => stO c23 (x.2.2.2.1.2.1 + v22 * 1) [(.own 3 1 l21)] fun c24 => setS (S.set x.2.2.2.1.1 (ty c24)) fun S => Jnrm (x.1,(),x.2.2.1,x.2.2.2.1,x.2.2.2.2.1,x.2.2.2.2.2.1,x.2.2.2.2.2.2.2) S
def Q6 (k : Nat) : Pc PG R (su Tryz.f36 53719855) := mkEnd T_ok (C k) _ c6 c0 (.own [(5,2),(10,2)]) tr (fun x S K => q6 k (kN K c0) x S)
def q5 (k : Nat) (Jnrm : Kt R T0)  (x : T0) (S : LL) : Option R :=
 idxL x.2.2.2.2.2.2.2.2.2.1 x.2.2.2.2.2.2.2.2.2.2.2.1 fun v16 => asInt .i64 (leaf v16 0) fun n17 => q6 k (fun o25 S => Jnrm (o25.1,(),o25.2.2.1,o25.2.2.2.1,o25.2.2.2.2.1,o25.2.2.2.2.2.1,o25.2.2.2.2.2.2.1,o25.2.2.2.2.2.2.2.1,o25.2.2.2.2.2.2.2.2.1,o25.2.2.2.2.2.2.2.2.2.1,o25.2.2.2.2.2.2.2.2.2.2.1,(IntKind.wrap .i64 (o25.2.2.2.2.2.2.2.2.2.2.2.1 + 1)),()) S) (x.1,(),x.2.2.1,x.2.2.2.1,x.2.2.2.2.1,x.2.2.2.2.2.1,n17,x.2.2.2.2.2.2) S
def Q5 (k : Nat) : Pc PG R (su Tryz.f36 7582511) := mkEnd T_ok (C k) _ c0 c0 (.seq (.block (.seq .auto (.piece (Q6 k).h))) .auto) ⟨⟨tr,(Q6 k).ok⟩,tr⟩ (fun x S K => q5 k (kN K c0) x S)
def q4 (k : Nat) (Jnrm : Kt R T0) (J2 : Kt R T3) (x : (N2 × U1 × N3 × N3 × Int × Int × LL × Int × Int × LL × Int × Int × Bool × U1)) (S : LL) : Option R :=
 ifB x.2.2.2.2.2.2.2.2.2.2.2.2.1 (q5 k (fun o26 S => Jnrm (o26.1,(),o26.2.2) S) (x.1,(),x.2.2.1,x.2.2.2.1,x.2.2.2.2.1,x.2.2.2.2.2.1,x.2.2.2.2.2.2.1,x.2.2.2.2.2.2.2.1,x.2.2.2.2.2.2.2.2.1,x.2.2.2.2.2.2.2.2.2.1,x.2.2.2.2.2.2.2.2.2.2.1,x.2.2.2.2.2.2.2.2.2.2.2.1,()) S) (J2 (x.1,(),x.2.2.1,x.2.2.2.1,x.2.2.2.2.1,x.2.2.2.2.2.2.1,x.2.2.2.2.2.2.2.1,x.2.2.2.2.2.2.2.2.1,()) S)
def Q4 (k : Nat) : Pc PG R (su Tryz.f36 3388207) := mkEnd T_ok (C k) _ c4 c0 (.seq (.cond .auto (.mask z0 .auto)) (.piece (Q5 k).h)) ⟨⟨tr,tr⟩,(Q5 k).ok⟩ (fun x S K => q4 k (kN K c0) (kX K 2 z0) x S)
def b1 (k : Nat) (J2 : Kt R T3) (rec : Kt R T0) (x : T0) (S : LL) : Option R :=
 q4 k (fun o27 S => rec (o27.1,(),o27.2.2) S) (fun o28 S => J2 (o28.1,(),o28.2.2) S) (x.1,(),x.2.2.1,x.2.2.2.1,x.2.2.2.2.1,x.2.2.2.2.2.1,x.2.2.2.2.2.2.1,x.2.2.2.2.2.2.2.1,x.2.2.2.2.2.2.2.2.1,x.2.2.2.2.2.2.2.2.2.1,x.2.2.2.2.2.2.2.2.2.2.1,x.2.2.2.2.2.2.2.2.2.2.2.1,(decide (x.2.2.2.2.2.2.2.2.2.2.2.1 < x.2.2.2.2.2.2.2.2.2.2.1)),()) S
def L1 (k : Nat) : Pc PG R (.loop (su Tryz.f36 1291055)) := mkLoop T_ok (C k) _ c0 k (.seq .auto (.piece (Q4 k).h)) ⟨tr,(Q4 k).ok⟩ (fun K => b1 k (kX K 2 z0))
def b4 (k : Nat) (J8 : Kt R T5) (rec : Kt R T2) (x : T2) (S : LL) : Option R :=
 ifB (decide (x.2.2.2.2.2.2.2.2.1 < x.2.2.2.2.2.2.2.1)) (idxL x.2.2.2.2.2.2.1 x.2.2.2.2.2.2.2.2.1 fun v61 => asInt .i64 (leaf v61 0) fun n62 => idxN x.2.1.2.2 n62 fun v63 => objAt S x.2.1.1 fun ty c64 => ldInt .i64 c64 (x.2.1.2.1 + v63 * 1) fun n65 => idxN x.2.1.2.2 n62 fun v66 => objAt S x.2.1.1 fun ty c67 => stO c67 (x.2.1.2.1 + v66 * 1) [(.int .i64 (IntKind.wrap .i64 (n65 - 1)))] fun c68 => setS (S.set x.2.1.1 (ty c68)) fun S => rec ((),x.2.1,x.2.2.1,x.2.2.2.1,x.2.2.2.2.1,x.2.2.2.2.2.1,x.2.2.2.2.2.2.1,x.2.2.2.2.2.2.2.1,(IntKind.wrap .i64 (x.2.2.2.2.2.2.2.2.1 + 1)),()) S) (J8 ((),x.2.1,x.2.2.1,x.2.2.2.1,x.2.2.2.2.1,x.2.2.2.2.2.1,()) S)
def L4 (k : Nat) : Pc PG R (.loop (su Tryz.f36 1307775)) := mkLoop T_ok (C k) _ m4 k (.seq .auto (.seq (.cond .auto (.mask e8 .auto)) (.seq (.block (.seq .auto (.own [(3,1),(6,1)]))) .auto))) ⟨tr,⟨tr,tr⟩,⟨tr,tr⟩,tr⟩ (fun K => b4 k (kX K 8 e8))
def q0 (k : Nat) (Jnrm : Kt R T3)  (x : T0) (S : LL) : Option R :=
 rounds (b1 k (fun o29 S => Jnrm (o29.1,(),o29.2.2) S)) k (x.1,(),x.2.2) S
def Q0 (k : Nat) : Pc PG R (su Tryz.f36 504623) := mkEnd T_ok (C k) _ c0 z0 (.block (.piece (L1 k).h)) (L1 k).ok (fun x S K => q0 k (kN K z0) x S)
def q3 (k : Nat) (Jnrm : Kt R T3)  (x : T1) (S : LL) : Option R :=
 q0 k (fun o30 S => Jnrm (o30.1,(),o30.2.2) S) (x.1,(),x.2.2.1,x.2.2.2.1,x.2.2.2.2.1,x.2.2.2.2.2.1,x.2.2.2.2.2.2.2.1,x.2.2.2.2.2.2.2.2.1,x.2.2.2.2.2.2.2.2.2.1,x.2.2.2.2.2.2.1,(x.2.2.2.2.2.2.1.length : Int),0,()) S
def Q3 (k : Nat) : Pc PG R (su Tryz.f36 242479) := mkEnd T_ok (C k) _ c2 z0 (.seq .auto (.piece (Q0 k).h)) ⟨tr,(Q0 k).ok⟩ (fun x S K => q3 k (kN K z0) x S)
def q7 (k : Nat) (Jnrm : Kt R T4)  (x : T4) (S : LL) : Option R :=
 Jnrm ((),x.2.1,x.2.2.1,x.2.2.2.1,x.2.2.2.2.1,x.2.2.2.2.2.1,(IntKind.wrap .i64 (x.2.2.2.2.2.2.1 + 1)),()) S
def Q7 (k : Nat) : Pc PG R (su Tryz.f36 201855) := mkEnd T_ok (C k) _ c7 c7 (.block .auto) tr (fun x S K => q7 k (kN K c7) x S)
def q2 (k : Nat) (Jnrm : Kt R T3)  (x : T1) (S : LL) : Option R :=
 idxN x.2.2.1.2.2 x.2.2.2.2.2.1 fun v13 => objAt S x.2.2.1.1 fun ty c14 => stO c14 (x.2.2.1.2.1 + v13 * 1) [(.int .i64 (x.2.2.2.2.2.2.1.length : Int))] fun c15 => setS (S.set x.2.2.1.1 (ty c15)) fun S => q3 k (fun o31 S => Jnrm (o31.1,(),o31.2.2) S) (x.1,(),x.2.2) S
def Q2 (k : Nat) : Pc PG R (su Tryz.f36 111407) := mkEnd T_ok (C k) _ c2 z0 (.seq (.own [(5,1)]) (.piece (Q3 k).h)) ⟨tr,(Q3 k).ok⟩ (fun x S K => q2 k (kN K z0) x S)
def b3 (k : Nat) (J6 : Kt R T4) (rec : Kt R T4) (x : T4) (S : LL) : Option R :=
 ifB (decide (x.2.2.2.2.2.2.1 < (x.2.1.2.2 : Int))) (idxN x.2.2.2.2.1.2.2 x.2.2.2.2.2.2.1 fun v42 => objAt S x.2.2.2.2.1.1 fun ty c43 => ldBool c43 (x.2.2.2.2.1.2.1 + v42 * 1) fun b44 => ifB b44 (q7 k (fun o45 S => rec ((),o45.2) S) ((),x.2) S) (idxN x.2.1.2.2 x.2.2.2.2.2.2.1 fun v46 => objAt S x.2.1.1 fun ty c47 => ldInt .i64 c47 (x.2.1.2.1 + v46 * 1) fun n48 => ifB (decide (n48 > 0)) (q7 k (fun o49 S => rec ((),o49.2) S) ((),x.2) S) (ifB (!(true == true)) (idxL [] x.2.2.2.2.2.2.1 fun v50 => asBool (leaf v50 0) fun b51 => ifB (!b51) (q7 k (fun o52 S => rec ((),o52.2) S) ((),x.2) S) (J6 ((),x.2) S)) (J6 ((),x.2) S)))) (J6 ((),x.2) S)
def L3 (k : Nat) : Pc PG R (.loop (su Tryz.f36 70783)) := mkLoop T_ok (C k) _ c7 k (.seq (.seq (.own [(8,1),(13,1)]) (.cond .auto (.mask c7 .auto))) (.piece (Q7 k).h)) ⟨⟨tr,tr,tr⟩,(Q7 k).ok⟩ (fun K => b3 k (kX K 6 c7))
def q1 (k : Nat) (Jnrm : Kt R T3)  (x : (N2 × U1 × N3 × N3 × Int × Int × LL × LL × Int × Int × Bool × U1)) (S : LL) : Option R :=
 ifB x.2.2.2.2.2.2.2.2.2.2.1 (q2 k (fun o32 S => Jnrm (o32.1,(),o32.2.2) S) (x.1,(),x.2.2.1,x.2.2.2.1,(IntKind.wrap .i64 (x.2.2.2.2.1 + 1)),x.2.2.2.2.2.1,x.2.2.2.2.2.2.1,x.2.2.2.2.2.2.2.1,x.2.2.2.2.2.2.2.2.1,x.2.2.2.2.2.2.2.2.2.1,()) S) (Jnrm (x.1,(),x.2.2.1,x.2.2.2.1,x.2.2.2.2.1,x.2.2.2.2.2.2.2.1,x.2.2.2.2.2.2.2.2.1,x.2.2.2.2.2.2.2.2.2.1,()) S)
def Q1 (k : Nat) : Pc PG R (su Tryz.f36 29487) := mkEnd T_ok (C k) _ c1 z0 (.cond (.seq .auto (.piece (Q2 k).h)) .auto) ⟨⟨tr,(Q2 k).ok⟩,tr⟩ (fun x S K => q1 k (kN K z0) x S)
def b2 (k : Nat) (J4 : Kt R (LL × U1)) (Jret : Kt R (LL × Bool × U1)) (rec : Kt R T5) (x : T5) (S : LL) : Option R :=
 ifB (decide ((x.2.2.2.2.2.1.length : Int) < x.2.2.2.1)) (rounds (b3 k (fun o53 S => ifB (o53.2.2.2.2.2.2.1 == (o53.2.1.2.2 : Int)) (Jret ([],false,()) S) (idxN o53.2.2.2.2.1.2.2 o53.2.2.2.2.2.2.1 fun v54 => objAt S o53.2.2.2.2.1.1 fun ty c55 => stO c55 (o53.2.2.2.2.1.2.1 + v54 * 1) [(.bool true)] fun c56 => setS (S.set o53.2.2.2.2.1.1 (ty c56)) fun S => app 8 o53.2.2.2.2.2.1 [(.int .i64 o53.2.2.2.2.2.2.1)] fun l57 => idxN o53.2.2.1.2.2 o53.2.2.2.2.2.2.1 fun v58 => objAt S o53.2.2.1.1 fun ty c59 => ldSl 1 c59 (o53.2.2.1.2.1 + v58 * 1) fun l60 => rounds (b4 k (fun o69 S => rec ((),o69.2) S)) k ((),o53.2.1,o53.2.2.1,o53.2.2.2.1,o53.2.2.2.2.1,l57,l60,(l60.length : Int),0,()) S))) k ((),x.2.1,x.2.2.1,x.2.2.2.1,x.2.2.2.2.1,x.2.2.2.2.2.1,0,()) S) (J4 x.2.2.2.2.2 S)
def L2 (k : Nat) : Pc PG R (.loop (su Tryz.f36 1151)) := mkLoop T_ok (C k) _ e8 k (.seq (.seq .auto (.cond .auto (.mask e4 .auto))) (.block (.seq .auto (.seq (.block (.piece (L3 k).h)) (.seq (.seq .auto (.cond (.seq .auto (.mask mr .auto)) .auto)) (.seq (.own [(3,1)]) (.seq (.own [(0,1)]) (.seq (.own [(3,1)]) (.block (.piece (L4 k).h)))))))))) ⟨⟨tr,tr,tr⟩,tr,(L3 k).ok,⟨tr,⟨tr,tr⟩,tr⟩,tr,tr,tr,(L4 k).ok⟩ (fun K => b2 k (kX K 4 e4) (kR K mr))
def b0 (k : Nat) (J0 : Kt R (N2 × U1 × N3 × N3 × Int × U1)) (rec : Kt R T3) (x : T3) (S : LL) : Option R :=
 ifB (decide (x.2.2.2.2.2.2.2.1 < x.2.2.2.2.2.2.1)) (idxL x.2.2.2.2.2.1 x.2.2.2.2.2.2.2.1 fun v11 => asSl 1 (leaf v11 0) fun l12 => ifB (true == true) (q1 k (fun o33 S => rec (o33.1,(),o33.2.2.1,o33.2.2.2.1,o33.2.2.2.2.1,o33.2.2.2.2.2.1,o33.2.2.2.2.2.2.1,(IntKind.wrap .i64 (o33.2.2.2.2.2.2.2.1 + 1)),()) S) (x.1,(),x.2.2.1,x.2.2.2.1,x.2.2.2.2.1,x.2.2.2.2.2.2.2.1,l12,x.2.2.2.2.2.1,x.2.2.2.2.2.2.1,x.2.2.2.2.2.2.2.1,true,()) S) (idxL [] x.2.2.2.2.2.2.2.1 fun v34 => asBool (leaf v34 0) fun b35 => q1 k (fun o36 S => rec (o36.1,(),o36.2.2.1,o36.2.2.2.1,o36.2.2.2.2.1,o36.2.2.2.2.2.1,o36.2.2.2.2.2.2.1,(IntKind.wrap .i64 (o36.2.2.2.2.2.2.2.1 + 1)),()) S) (x.1,(),x.2.2.1,x.2.2.2.1,x.2.2.2.2.1,x.2.2.2.2.2.2.2.1,l12,x.2.2.2.2.2.1,x.2.2.2.2.2.2.1,x.2.2.2.2.2.2.2.1,b35,()) S)) (J0 (x.1,(),x.2.2.1,x.2.2.2.1,x.2.2.2.2.1,()) S)
def L0 (k : Nat) : Pc PG R (.loop (su Tryz.f36 303)) := mkLoop T_ok (C k) _ z0 k (.seq .auto (.seq (.cond .auto (.mask e0 .auto)) (.seq (.block (.seq .auto (.seq .auto (.piece (Q1 k).h)))) .auto))) ⟨tr,⟨tr,tr⟩,⟨tr,tr,(Q1 k).ok⟩,tr⟩ (fun K => b0 k (kX K 0 e0))
def fn (k : Nat) (x : (N2 × U1 × U1)) (S : LL) (K : Kt R (LL × Bool × U1)) : Option R :=
 objAt S x.1.1 fun ty c1 => ldSl 8 c1 (x.1.2 + 0) fun l2 => ifB (decide ((l2.length : Int) = (l2.length : Int))) (mkN (l2.length : Int) 8 fun m3 => newObj S (.obj 3 (zeros m3 [(.int .i64 (0 : Int))])) fun i4 S => objAt S x.1.1 fun ty c5 => ldSl 8 c5 (x.1.2 + 0) fun l6 => ifB (decide ((l6.length : Int) = (l6.length : Int))) (mkN (l6.length : Int) 24 fun m7 => newObj S (.obj 45 (zeros m7 [.nilsl])) fun i8 S => objAt S x.1.1 fun ty c9 => ldSl 1 c9 (x.1.2 + 2) fun l10 => rounds (b0 k (fun o37 S => objAt S o37.1.1 fun ty c38 => ldSl 8 c38 (o37.1.2 + 0) fun l39 => ifB (decide ((l39.length : Int) = (l39.length : Int))) (mkN (l39.length : Int) 1 fun m40 => newObj S (.obj 4 (zeros m40 [(.bool false)])) fun i41 S => rounds (b2 k (fun o70 S => K (o70.1,true,()) S) K) k ((),o37.2.2.1,o37.2.2.2.1,o37.2.2.2.2.1,(i41,0,m40),[],()) S) none)) k (x.1,(),(i4,0,m3),(i8,0,m7),0,l10,(l10.length : Int),0,()) S) none) none
def en (k : Nat) : Ent PG R := mkFn T_ok Tryz.func36 ps rs (C k) (.seq .auto (.seq (.own [(3,1)]) (.seq (.own [(3,1)]) (.seq .auto (.seq (.seq (.own [(3,1)]) (.block (.piece (L0 k).h))) (.seq (.own [(3,1)]) (.seq .auto (.seq (.block (.piece (L2 k).h)) (.seq (.own [(0,1)]) (.mask mr .auto)))))))))) ⟨tr,tr,tr,tr,⟨tr,(L0 k).ok⟩,tr,tr,(L2 k).ok,tr,tr⟩ (fn k)
end G.steps_plan_order_nils
namespace G.steps_open
abbrev ps : Mk := sL 8 []
abbrev rs : Mk := sR (sI [])
abbrev e0 : Mk := sL 8 (nM 142 [])
abbrev e2 : Mk := sL 8 (n6 (sP (nM 135 [])))
abbrev e4 : Mk := sL 8 (n6 (sP (sX [.map,.map,.map,.map] (nM 50 (sL 8 (sI (sI (nM 81 []))))))))
abbrev e6 : Mk := n7 (sP (nM 135 []))
abbrev e8 : Mk := n7 (sP (n9 (sh (.lf (.map)) (nM 77 (sL 8 (sI (sI (nM 45 []))))))))
abbrev m0 : Mk := sL 8 (nM 26 (sL 8 (sI (sI (nM 113 [])))))
abbrev m2 : Mk := sL 8 (n6 (sP (sX [.map,.map,.map,.map] (sI (nM 49 (sL 8 (sI (sI (n6 (sL 1 (sI (sI (nM 72 [])))))))))))))
abbrev m3 : Mk := n7 (sP (nM 87 (sL 8 (sI (sI (nM 45 []))))))
abbrev m4 : Mk := n7 (sP (n9 (sh (.lf (.map)) (nM 77 (sL 8 (sI (sI (n5 (sL 1 (sI (sI (nM 37 []))))))))))))
abbrev mr : Mk := n2 (sR (sI (nM 139 [])))
abbrev T5 := LV × Int × U1
abbrev T4 := N2 × LL × Int × Int × U1
abbrev T3 := LL × LL × Int × Int × U1
abbrev T2 := N2 × Nat × LL × Int × Int × LL × Int × Int × U1
abbrev T1 := LL × N2 × (Nat × Nat × Nat × Nat × U1) × LL × Int × Int × U1
abbrev T0 := LL × N2 × (Nat × Nat × Nat × Nat × U1) × Int × LL × Int × Int × LL × Int × Int × U1
def C (k : Nat) : List (Ent PG R) := [steps_plan_order_nils.en k,steps_checkRule.en k,steps_tangleOf.en k,steps_tangle_clashes.en k,⟨51,H.SortedI.h k,H.SortedI.ok k⟩,maps_Keys_map_int_bool_int_bool.en k]
def b4 (k : Nat) (J8 : Kt R (N2 × Nat × LL × Int × Int × U1)) (rec : Kt R T2) (x : T2) (S : LL) : Option R :=
 ifB (decide (x.2.2.2.2.2.2.2.1 < x.2.2.2.2.2.2.1)) (idxL x.2.2.2.2.2.1 x.2.2.2.2.2.2.2.1 fun v54 => asStr (leaf v54 0) fun s55 => objAt S x.1.1 fun ty c56 => ldRaw c56 (x.1.2 + 1) fun v57 => asMap v57 fun i58 => mpAt S i58 .str fun m59 => asInt .i64 ((mapGet m59 (.str s55)).getD (.int .i64 (0 : Int))) fun n60 => ifB (mapGet m59 (.str s55)).isSome (mpAt S x.2.1 (.int .i64) fun m61 => setS (S.set x.2.1 (.mp (.int .i64) (mapPut m61 (.int .i64 n60) (.bool true)))) fun S => rec (x.1,x.2.1,x.2.2.1,x.2.2.2.1,x.2.2.2.2.1,x.2.2.2.2.2.1,x.2.2.2.2.2.2.1,(IntKind.wrap .i64 (x.2.2.2.2.2.2.2.1 + 1)),()) S) (rec (x.1,x.2.1,x.2.2.1,x.2.2.2.1,x.2.2.2.2.1,x.2.2.2.2.2.1,x.2.2.2.2.2.2.1,(IntKind.wrap .i64 (x.2.2.2.2.2.2.2.1 + 1)),()) S)) (J8 (x.1,x.2.1,x.2.2.1,x.2.2.2.1,x.2.2.2.2.1,()) S)
def L4 (k : Nat) : Pc PG R (.loop (su Tryz.f24 1232063)) := mkLoop T_ok (C k) _ m4 k (.seq .auto (.seq (.cond .auto (.mask e8 .auto)) (.seq (.block (.seq .auto (.seq (.own [(3,3),(6,1)]) (.seq .auto (.cond .auto .auto))))) .auto))) ⟨tr,⟨tr,tr⟩,⟨tr,tr,tr,tr,tr⟩,tr⟩ (fun K => b4 k (kX K 8 e8))
def b2 (k : Nat) (J4 : Kt R T1) (Jret : Kt R T5) (rec : Kt R T0) (x : T0) (S : LL) : Option R :=
 ifB (decide (x.2.2.2.2.2.2.2.2.2.1 < x.2.2.2.2.2.2.2.2.1)) (idxL x.2.2.2.2.2.2.2.1 x.2.2.2.2.2.2.2.2.2.1 fun v28 => asStr (leaf v28 0) fun s29 => objAt S x.2.1.1 fun ty c30 => ldRaw c30 (x.2.1.2 + 1) fun v31 => asMap v31 fun i32 => mpAt S i32 .str fun m33 => asInt .i64 ((mapGet m33 (.str s29)).getD (.int .i64 (0 : Int))) fun n34 => ifB (mapGet m33 (.str s29)).isSome (Jret (.nilp,7,()) S) (objAt S x.2.1.1 fun ty c35 => ldRaw c35 (x.2.1.2 + 1) fun v36 => asMap v36 fun i37 => mpAt S i37 .str fun m38 => setS (S.set i37 (.mp .str (mapPut m38 (.str s29) (.int .i64 x.2.2.2.1)))) fun S => steps_tangle_clashes.fn k (x.2.2.1,s29,()) S fun r39 S => ifB r39.1 (Jret (.nilp,12,()) S) (rec (x.1,x.2.1,x.2.2.1,x.2.2.2.1,x.2.2.2.2.1,x.2.2.2.2.2.1,x.2.2.2.2.2.2.1,x.2.2.2.2.2.2.2.1,x.2.2.2.2.2.2.2.2.1,(IntKind.wrap .i64 (x.2.2.2.2.2.2.2.2.2.1 + 1)),()) S))) (J4 (x.1,x.2.1,x.2.2.1,x.2.2.2.2.1,x.2.2.2.2.2.1,x.2.2.2.2.2.2.1,()) S)
def L2 (k : Nat) : Pc PG R (.loop (su Tryz.f24 157279)) := mkLoop T_ok (C k) _ m2 k (.seq .auto (.seq (.cond .auto (.mask e4 .auto)) (.seq (.block (.seq .auto (.seq (.seq (.own [(3,3),(6,1)]) (.seq .auto (.cond (.seq .auto (.mask mr .auto)) .auto))) (.seq (.own [(3,3)]) (.seq .auto (.cond (.seq .auto (.mask mr .auto)) .auto)))))) .auto))) ⟨tr,⟨tr,tr⟩,⟨tr,⟨tr,tr,⟨tr,tr⟩,tr⟩,tr,tr,⟨tr,tr⟩,tr⟩,tr⟩ (fun K => b2 k (kX K 4 e4) (kR K mr))
def b3 (k : Nat) (J6 : Kt R (N2 × U1)) (rec : Kt R T4) (x : T4) (S : LL) : Option R :=
 ifB (decide (x.2.2.2.1 < x.2.2.1)) (idxL x.2.1 x.2.2.2.1 fun v43 => mat 8 v43 fun c44 => asStr (c44.getD 0 .any) fun s45 => asStr (c44.getD 1 .any) fun s46 => asSl 1 (c44.getD 2 .any) fun l47 => asSl 2 (c44.getD 3 .any) fun l48 => asSl 1 (c44.getD 4 .any) fun l49 => asSl 2 (c44.getD 5 .any) fun l50 => asInt .i64 (c44.getD 6 .any) fun n51 => asSl 1 (c44.getD 7 .any) fun l52 => newObj S (.mp (.int .i64) []) fun i53 S => rounds (b4 k (fun o62 S => ifB (Nat.beq o62.1.1 o62.1.1) (objAt S o62.1.1 fun ty c63 => asOwn 45 1 (c63.getD (o62.1.2 + 2) .any) fun l64 => setS (S.set o62.1.1 (ty (c63.set (o62.1.2 + 2) (.sl 1 l64)))) fun S => maps_Keys_map_int_bool_int_bool.fn k (o62.2.1,()) (S.set o62.1.1 .any) fun r65 S' => hidR o62.1.1 (S.getD o62.1.1 .any) S' fun S => H.SortedI.fn k r65 (S.set o62.1.1 .any) fun r66 S' => hidR o62.1.1 (S.getD o62.1.1 .any) S' fun S => app 24 l64 [(.sl 1 r66.1)] fun l67 => objAt S o62.1.1 fun ty c68 => stO c68 (o62.1.2 + 2) [(.own 45 1 l67)] fun c69 => setS (S.set o62.1.1 (ty c69)) fun S => rec (o62.1,o62.2.2.1,o62.2.2.2.1,(IntKind.wrap .i64 (o62.2.2.2.2.1 + 1)),()) S) none)) k (x.1,i53,x.2.1,x.2.2.1,x.2.2.2.1,l52,(l52.length : Int),0,()) S) (J6 (x.1,()) S)
def L3 (k : Nat) : Pc PG R (.loop (su Tryz.f24 1215)) := mkLoop T_ok (C k) _ m3 k (.seq .auto (.seq (.cond .auto (.mask e6 .auto)) (.seq (.block (.seq .auto (.seq .auto (.seq (.seq .auto (.block (.piece (L4 k).h))) (.hide 7 [(4,2),(12,2)] [0,1,2,3,5,4,6,7,8,9,10,11,12]))))) .auto))) ⟨tr,⟨tr,tr⟩,⟨tr,tr,⟨tr,(L4 k).ok⟩,(hide_an (by kernel_rfl))⟩,tr⟩ (fun K => b3 k (kX K 6 e6))
def b1 (k : Nat) (J2 : Kt R (LL × N2 × U1)) (Jret : Kt R T5) (rec : Kt R T1) (x : T1) (S : LL) : Option R :=
 ifB (decide (x.2.2.2.2.2.1 < x.2.2.2.2.1)) (idxL x.2.2.2.1 x.2.2.2.2.2.1 fun v18 => mat 8 v18 fun c19 => asStr (c19.getD 0 .any) fun s20 => asStr (c19.getD 1 .any) fun s21 => asSl 1 (c19.getD 2 .any) fun l22 => asSl 2 (c19.getD 3 .any) fun l23 => asSl 1 (c19.getD 4 .any) fun l24 => asSl 2 (c19.getD 5 .any) fun l25 => asInt .i64 (c19.getD 6 .any) fun n26 => asSl 1 (c19.getD 7 .any) fun l27 => rounds (b2 k (fun o40 S => rec (o40.1,o40.2.1,o40.2.2.1,o40.2.2.2.1,o40.2.2.2.2.1,(IntKind.wrap .i64 (o40.2.2.2.2.2.1 + 1)),()) S) Jret) k (x.1,x.2.1,x.2.2.1,x.2.2.2.2.2.1,x.2.2.2.1,x.2.2.2.2.1,x.2.2.2.2.2.1,l24,(l24.length : Int),0,()) S) (J2 (x.1,x.2.1,()) S)
def L1 (k : Nat) : Pc PG R (.loop (su Tryz.f24 607)) := mkLoop T_ok (C k) _ e4 k (.seq .auto (.seq (.cond .auto (.mask e2 .auto)) (.seq (.block (.seq .auto (.seq .auto (.block (.piece (L2 k).h))))) .auto))) ⟨tr,⟨tr,tr⟩,⟨tr,tr,(L2 k).ok⟩,tr⟩ (fun K => b1 k (kX K 2 e2) (kR K mr))
def b0 (k : Nat) (J0 : Kt R (LL × U1)) (Jret : Kt R T5) (rec : Kt R T3) (x : T3) (S : LL) : Option R :=
 ifB (decide (x.2.2.2.1 < x.2.2.1)) (idxL x.2.1 x.2.2.2.1 fun v1 => mat 8 v1 fun c2 => asStr (c2.getD 0 .any) fun s3 => asStr (c2.getD 1 .any) fun s4 => asSl 1 (c2.getD 2 .any) fun l5 => asSl 2 (c2.getD 3 .any) fun l6 => asSl 1 (c2.getD 4 .any) fun l7 => asSl 2 (c2.getD 5 .any) fun l8 => asInt .i64 (c2.getD 6 .any) fun n9 => asSl 1 (c2.getD 7 .any) fun l10 => steps_checkRule.fn k ((s3,s4,l5,l6,l7,l8,n9,l10,()),()) S fun r11 S => ifB (r11.1 != 0) (Jret (.nilp,r11) S) (ifB (decide (x.2.2.2.1 > 0)) (idxL x.1 (IntKind.wrap .i64 (x.2.2.2.1 - 1)) fun v12 => asStr (leaf v12 0) fun s13 => ifB (strLt s3 s13 || strEq s3 s13) (Jret (.nilp,8,()) S) (rec (x.1,x.2.1,x.2.2.1,(IntKind.wrap .i64 (x.2.2.2.1 + 1)),()) S)) (rec (x.1,x.2.1,x.2.2.1,(IntKind.wrap .i64 (x.2.2.2.1 + 1)),()) S))) (J0 (x.1,()) S)
def L0 (k : Nat) : Pc PG R (.loop (su Tryz.f24 75)) := mkLoop T_ok (C k) _ m0 k (.seq .auto (.seq (.cond .auto (.mask e0 .auto)) (.seq (.block (.seq .auto (.seq (.seq .auto (.seq .auto (.cond (.seq .auto (.mask mr .auto)) .auto))) (.seq (.drawn [] [0,1,2,3,4,5,6,7,8,9,10,11,12]) (.cond (.seq .auto (.mask mr .auto)) .auto))))) .auto))) ⟨tr,⟨tr,tr⟩,⟨tr,⟨tr,tr,⟨tr,tr⟩,tr⟩,(drawn_an (by kernel_rfl)),⟨tr,tr⟩,tr⟩,tr⟩ (fun K => b0 k (kX K 0 e0) (kR K mr))
def fn (k : Nat) (x : (LL × U1)) (S : LL) (K : Kt R T5) : Option R :=
 ifB (decide ((x.1.length : Int) > 500)) (K (.nilp,2,()) S) (rounds (b0 k (fun o14 S => newObj S (.mp .str []) fun i15 S => newObj S (.obj 66 [(.sl 8 o14.1),(.map i15),.nilsl]) fun i16 S => steps_tangleOf.fn k o14 S fun r17 S => rounds (b1 k (fun o42 S => rounds (b3 k (fun o70 S => steps_plan_order_nils.fn k (o70.1,(),()) S fun r71 S => ifB (!r71.2.1) (K (.nilp,17,()) S) (K ((.ptr o70.1.1 o70.1.2),0,()) S))) k (o42.2.1,o42.1,(o42.1.length : Int),0,()) S) K) k (o14.1,(i16,0),r17.1,o14.1,(o14.1.length : Int),0,()) S) K) k (x.1,x.1,(x.1.length : Int),0,()) S)
def en (k : Nat) : Ent PG R := mkFn T_ok Tryz.func24 ps rs (C k) (.seq .auto (.seq (.seq .auto (.cond (.seq .auto (.mask mr .auto)) .auto)) (.seq (.seq .auto (.block (.piece (L0 k).h))) (.seq (.own [(3,1)]) (.seq .auto (.seq (.seq .auto (.block (.piece (L1 k).h))) (.seq (.seq .auto (.block (.piece (L3 k).h))) (.seq (.seq (.own [(2,1)]) (.seq .auto (.cond (.seq .auto (.mask mr .auto)) .auto))) (.seq .auto (.mask mr .auto)))))))))) ⟨tr,⟨tr,⟨tr,tr⟩,tr⟩,⟨tr,(L0 k).ok⟩,tr,tr,⟨tr,(L1 k).ok⟩,⟨tr,(L3 k).ok⟩,⟨tr,tr,⟨tr,tr⟩,tr⟩,tr,tr⟩ (fn k)
end G.steps_open
namespace G.steps_Suspects_1
abbrev ps : Mk := sS (sP [])
abbrev rs : Mk := sB []
abbrev mr : Mk := n3 (sB (n3 []))
def C (k : Nat) : List (Ent PG R) := []
def fn (k : Nat) (x : (BA × N2 × U1)) (S : LL) (K : Kt R (Bool × U1)) : Option R :=
 objAt S x.2.1.1 fun ty c1 => ldRaw c1 x.2.1.2 fun v2 => asMap v2 fun i3 => mpAt S i3 .str fun m4 => asBool ((mapGet m4 (.str x.1)).getD (.bool false)) fun b5 => K (b5,()) S
def en (k : Nat) : Ent PG R := mkFn T_ok Tryz.func38 ps rs (C k) (.seq .auto (.seq (.own [(0,3)]) (.mask mr .auto))) ⟨tr,tr,tr⟩ (fn k)
end G.steps_Suspects_1
namespace G.slices_IndexFunc_s_string_string_at_steps_Suspects_1
abbrev ps : Mk := sL 1 (sh (.fn 38 [.ptr]) [])
abbrev rs : Mk := sI []
abbrev e0 : Mk := nM 19 []
abbrev m0 : Mk := sL 1 (sh (.fn 38 [.ptr]) (n5 (sI (sI (nX [])))))
abbrev mr : Mk := n4 (sI (nM 14 []))
abbrev T0 := LL × (N2 × U1) × Int × Int × U1
def C (k : Nat) : List (Ent PG R) := [steps_Suspects_1.en k]
def b0 (k : Nat) (J0 : Kt R (U1)) (Jret : Kt R (Int × U1)) (rec : Kt R T0) (x : T0) (S : LL) : Option R :=
 ifB (decide (x.2.2.2.1 < x.2.2.1)) (idxL x.1 x.2.2.2.1 fun v1 => asStr (leaf v1 0) fun s2 => steps_Suspects_1.fn k (s2,x.2.1) S fun r3 S => ifB r3.1 (Jret x.2.2.2 S) (rec (x.1,x.2.1,x.2.2.1,(IntKind.wrap .i64 (x.2.2.2.1 + 1)),()) S)) (J0 (()) S)
def L0 (k : Nat) : Pc PG R (.loop (su Tryz.f67 37)) := mkLoop T_ok (C k) _ m0 k (.seq .auto (.seq (.cond .auto (.mask e0 .auto)) (.seq (.block (.seq .auto (.seq .auto (.cond (.seq .auto (.mask mr .auto)) .auto)))) .auto))) ⟨tr,⟨tr,tr⟩,⟨tr,tr,⟨tr,tr⟩,tr⟩,tr⟩ (fun K => b0 k (kX K 0 e0) (kR K mr))
def fn (k : Nat) (x : (LL × (N2 × U1) × U1)) (S : LL) (K : Kt R (Int × U1)) : Option R :=
 rounds (b0 k (fun o4 S => K (-1,()) S) K) k (x.1,x.2.1,(x.1.length : Int),0,()) S
def en (k : Nat) : Ent PG R := mkFn T_ok Tryz.func67 ps rs (C k) (.seq .auto (.seq (.seq .auto (.block (.piece (L0 k).h))) (.seq .auto (.mask mr .auto)))) ⟨tr,⟨tr,(L0 k).ok⟩,tr,tr⟩ (fn k)
end G.slices_IndexFunc_s_string_string_at_steps_Suspects_1
namespace G.slices_ContainsFunc_s_string_string_at_steps_Suspects_1
abbrev ps : Mk := sL 1 (sh (.fn 38 [.ptr]) [])
abbrev rs : Mk := sB []
abbrev mr : Mk := n4 (sB (n4 []))
def C (k : Nat) : List (Ent PG R) := [slices_IndexFunc_s_string_string_at_steps_Suspects_1.en k]
def fn (k : Nat) (x : (LL × (N2 × U1) × U1)) (S : LL) (K : Kt R (Bool × U1)) : Option R :=
 slices_IndexFunc_s_string_string_at_steps_Suspects_1.fn k x S fun r1 S => K ((decide (r1.1 ≥ 0)),()) S
def en (k : Nat) : Ent PG R := mkFn T_ok Tryz.func37 ps rs (C k) (.seq .auto (.seq .auto (.mask mr .auto))) ⟨tr,tr,tr⟩ (fn k)
end G.slices_ContainsFunc_s_string_string_at_steps_Suspects_1
namespace G.steps_Suspects_2
abbrev ps : Mk := sI (sP [])
abbrev rs : Mk := sB []
abbrev mr : Mk := n3 (sB (n4 []))
def C (k : Nat) : List (Ent PG R) := []
def fn (k : Nat) (x : (Int × N2 × U1)) (S : LL) (K : Kt R (Bool × U1)) : Option R :=
 objAt S x.2.1.1 fun ty c1 => ldRaw c1 x.2.1.2 fun v2 => oslOr v2 (fun i4 p5 z7 n6 => ifB (Nat.beq z7 1) (idxN n6 x.1 fun v3 => objAt S i4 fun ty c8 => ldBool c8 (p5 + v3 * z7) fun b9 => K (b9,()) S) none) none
def en (k : Nat) : Ent PG R := mkFn T_ok Tryz.func40 ps rs (C k) (.seq .auto (.seq (.own [(0,4),(2,1),(3,1)]) (.mask mr .auto))) ⟨tr,tr,tr⟩ (fn k)
end G.steps_Suspects_2
namespace G.slices_IndexFunc_s_int_int_at_steps_Suspects_2
abbrev ps : Mk := sL 1 (sh (.fn 40 [.ptr]) [])
abbrev rs : Mk := sI []
abbrev e0 : Mk := nM 19 []
abbrev m0 : Mk := sL 1 (sh (.fn 40 [.ptr]) (n5 (sI (sI (nX [])))))
abbrev mr : Mk := n4 (sI (nM 14 []))
abbrev T0 := LL × (N2 × U1) × Int × Int × U1
def C (k : Nat) : List (Ent PG R) := [steps_Suspects_2.en k]
def b0 (k : Nat) (J0 : Kt R (U1)) (Jret : Kt R (Int × U1)) (rec : Kt R T0) (x : T0) (S : LL) : Option R :=
 ifB (decide (x.2.2.2.1 < x.2.2.1)) (idxL x.1 x.2.2.2.1 fun v1 => asInt .i64 (leaf v1 0) fun n2 => steps_Suspects_2.fn k (n2,x.2.1) S fun r3 S => ifB r3.1 (Jret x.2.2.2 S) (rec (x.1,x.2.1,x.2.2.1,(IntKind.wrap .i64 (x.2.2.2.1 + 1)),()) S)) (J0 (()) S)
def L0 (k : Nat) : Pc PG R (.loop (su Tryz.f68 37)) := mkLoop T_ok (C k) _ m0 k (.seq .auto (.seq (.cond .auto (.mask e0 .auto)) (.seq (.block (.seq .auto (.seq .auto (.cond (.seq .auto (.mask mr .auto)) .auto)))) .auto))) ⟨tr,⟨tr,tr⟩,⟨tr,tr,⟨tr,tr⟩,tr⟩,tr⟩ (fun K => b0 k (kX K 0 e0) (kR K mr))
def fn (k : Nat) (x : (LL × (N2 × U1) × U1)) (S : LL) (K : Kt R (Int × U1)) : Option R :=
 rounds (b0 k (fun o4 S => K (-1,()) S) K) k (x.1,x.2.1,(x.1.length : Int),0,()) S
def en (k : Nat) : Ent PG R := mkFn T_ok Tryz.func68 ps rs (C k) (.seq .auto (.seq (.seq .auto (.block (.piece (L0 k).h))) (.seq .auto (.mask mr .auto)))) ⟨tr,⟨tr,(L0 k).ok⟩,tr,tr⟩ (fn k)
end G.slices_IndexFunc_s_int_int_at_steps_Suspects_2
namespace G.slices_ContainsFunc_s_int_int_at_steps_Suspects_2
abbrev ps : Mk := sL 1 (sh (.fn 40 [.ptr]) [])
abbrev rs : Mk := sB []
abbrev mr : Mk := n4 (sB (n4 []))
def C (k : Nat) : List (Ent PG R) := [slices_IndexFunc_s_int_int_at_steps_Suspects_2.en k]
def fn (k : Nat) (x : (LL × (N2 × U1) × U1)) (S : LL) (K : Kt R (Bool × U1)) : Option R :=
 slices_IndexFunc_s_int_int_at_steps_Suspects_2.fn k x S fun r1 S => K ((decide (r1.1 ≥ 0)),()) S
def en (k : Nat) : Ent PG R := mkFn T_ok Tryz.func39 ps rs (C k) (.seq .auto (.seq .auto (.mask mr .auto))) ⟨tr,tr,tr⟩ (fn k)
end G.slices_ContainsFunc_s_int_int_at_steps_Suspects_2
namespace G.steps_Suspects
abbrev ps : Mk := sL 8 (sL 1 [])
abbrev rs : Mk := sO 9 1 (sI [])
abbrev e0 : Mk := sL 8 (n5 (sR (n1 (sP (nM 88 [])))))
abbrev e2 : Mk := sL 8 (nM 12 (sP (nM 83 [])))
abbrev e4 : Mk := nM 16 (sO 9 1 (nM 80 []))
abbrev m0 : Mk := sL 8 (n5 (sR (n1 (sP (nM 22 (sL 1 (sI (sI (nM 63 [])))))))))
abbrev m1 : Mk := sL 8 (n5 (sP (n1 (sP (n4 (sP (nM 37 (sL 1 (sI (sI (nM 43 [])))))))))))
abbrev m2 : Mk := sL 8 (nM 15 (sO 9 1 (nM 62 (sR (sI (sI (nM 15 [])))))))
abbrev mr : Mk := n4 (sO 9 1 (sI (nM 91 [])))
abbrev T3 := LL × Int × U1
abbrev T2 := LL × LL × LV × Int × Int × U1
abbrev T1 := LL × LV × N2 × LL × Int × Int × U1
abbrev T0 := LL × N2 × N2 × N2 × LL × Int × Int × U1
def C (k : Nat) : List (Ent PG R) := [steps_open.en k,blob_IsPath.en k,steps_plan_order_nils.en k,slices_ContainsFunc_s_string_string_at_steps_Suspects_1.en k,slices_ContainsFunc_s_int_int_at_steps_Suspects_2.en k]
def b2 (k : Nat) (J4 : Kt R (LL × U1)) (rec : Kt R T2) (x : T2) (S : LL) : Option R :=
 ifB (decide (x.2.2.2.2.1 < x.2.2.2.1)) (oslOr x.2.2.1 (fun i53 p54 z56 n55 => ifB (Nat.beq z56 1) (idxN n55 x.2.2.2.2.1 fun v52 => objAt S i53 fun ty c57 => ldBool c57 (p54 + v52 * z56) fun b58 => ifB b58 (idxL x.1 x.2.2.2.2.1 fun v59 => asStr (leaf v59 0) fun s60 => app 16 x.2.1 [(.str s60)] fun l61 => rec (x.1,l61,x.2.2.1,x.2.2.2.1,(IntKind.wrap .i64 (x.2.2.2.2.1 + 1)),()) S) (rec (x.1,x.2.1,x.2.2.1,x.2.2.2.1,(IntKind.wrap .i64 (x.2.2.2.2.1 + 1)),()) S)) none) none) (J4 (x.2.1,()) S)
def L2 (k : Nat) : Pc PG R (.loop (su Tryz.f18 19455)) := mkLoop T_ok (C k) _ m2 k (.seq .auto (.seq (.cond .auto (.mask e4 .auto)) (.seq (.block (.seq (.own [(1,1),(2,1)]) (.seq .auto (.cond (.own [(0,1)]) .auto)))) .auto))) ⟨tr,⟨tr,tr⟩,⟨tr,tr,tr,tr⟩,tr⟩ (fun K => b2 k (kX K 4 e4))
def b1 (k : Nat) (J2 : Kt R (LL × N2 × U1)) (rec : Kt R T0) (x : T0) (S : LL) : Option R :=
 ifB (decide (x.2.2.2.2.2.2.1 < x.2.2.2.2.2.1)) (idxL x.2.2.2.2.1 x.2.2.2.2.2.2.1 fun v22 => asInt .i64 (leaf v22 0) fun n23 => idxL x.1 n23 fun v24 => asSl 1 (leaf v24 7) fun l25 => objAt S x.2.2.2.1.1 fun ty c26 => ldRaw c26 x.2.2.2.1.2 fun v27 => slices_ContainsFunc_s_string_string_at_steps_Suspects_1.fn k (l25,(x.2.2.1,()),()) S fun r28 S' => quiR S S' fun S => ifB r28.1 (oslOr v27 (fun i30 p31 z33 n32 => ifB (Nat.beq z33 1) (idxN n32 n23 fun v29 => objAt S i30 fun ty c34 => stO c34 (p31 + v29 * z33) [(.bool true)] fun c35 => setS (S.set i30 (ty c35)) fun S => rec (x.1,x.2.1,x.2.2.1,x.2.2.2.1,x.2.2.2.2.1,x.2.2.2.2.2.1,(IntKind.wrap .i64 (x.2.2.2.2.2.2.1 + 1)),()) S) none) none) (objAt S x.2.1.1 fun ty c36 => ldSl 1 c36 (x.2.1.2 + 2) fun l37 => idxL l37 n23 fun v38 => asSl 1 (leaf v38 0) fun l39 => slices_ContainsFunc_s_int_int_at_steps_Suspects_2.fn k (l39,(x.2.2.2.1,()),()) S fun r40 S' => quiR S S' fun S => oslOr v27 (fun i42 p43 z45 n44 => ifB (Nat.beq z45 1) (idxN n44 n23 fun v41 => objAt S i42 fun ty c46 => stO c46 (p43 + v41 * z45) [(.bool r40.1)] fun c47 => setS (S.set i42 (ty c47)) fun S => rec (x.1,x.2.1,x.2.2.1,x.2.2.2.1,x.2.2.2.2.1,x.2.2.2.2.2.1,(IntKind.wrap .i64 (x.2.2.2.2.2.2.1 + 1)),()) S) none) none)) (J2 (x.1,x.2.2.2.1,()) S)
def L1 (k : Nat) : Pc PG R (.loop (su Tryz.f18 4863)) := mkLoop T_ok (C k) _ m1 k (.seq .auto (.seq (.cond .auto (.mask e2 .auto)) (.seq (.block (.seq .auto (.quiet [(0,4),(13,1),(20,1),(21,1)] [1,2,3,4,5,6,7,0,8,9,10,11,12,14,17,13,15,16,18,19,20,21]))) .auto))) ⟨tr,⟨tr,tr⟩,⟨tr,(quiet_an (by kernel_rfl))⟩,tr⟩ (fun K => b1 k (kX K 2 e2))
def b0 (k : Nat) (J0 : Kt R (LL × LV × N2 × U1)) (Jret : Kt R T3) (rec : Kt R T1) (x : T1) (S : LL) : Option R :=
 ifB (decide (x.2.2.2.2.2.1 < x.2.2.2.2.1)) (idxL x.2.2.2.1 x.2.2.2.2.2.1 fun v6 => asStr (leaf v6 0) fun s7 => blob_IsPath.fn k (s7,()) S fun r8 S => ifB (!r8.1) (Jret ([],3,()) S) (objAt S x.2.2.1.1 fun ty c9 => ldRaw c9 x.2.2.1.2 fun v10 => asMap v10 fun i11 => mpAt S i11 .str fun m12 => setS (S.set i11 (.mp .str (mapPut m12 (.str s7) (.bool true)))) fun S => rec (x.1,x.2.1,x.2.2.1,x.2.2.2.1,x.2.2.2.2.1,(IntKind.wrap .i64 (x.2.2.2.2.2.1 + 1)),()) S)) (J0 (x.1,x.2.1,x.2.2.1,()) S)
def L0 (k : Nat) : Pc PG R (.loop (su Tryz.f18 607)) := mkLoop T_ok (C k) _ m0 k (.seq .auto (.seq (.cond .auto (.mask e0 .auto)) (.seq (.block (.seq .auto (.seq (.seq .auto (.cond (.seq .auto (.mask mr .auto)) .auto)) (.own [(0,3)])))) .auto))) ⟨tr,⟨tr,tr⟩,⟨tr,⟨tr,⟨tr,tr⟩,tr⟩,tr⟩,tr⟩ (fun K => b0 k (kX K 0 e0) (kR K mr))
def fn0 (k : Nat) (x : (LL × LL × U1)) (S : LL) (K : Kt R T3) : Option R :=
 steps_open.fn k (x.1,()) S fun r1 S => ifB (r1.2.1 != 0) (K ([],r1.2) S) (ifB (decide ((x.2.1.length : Int) > 1000)) (K ([],2,()) S) (newObj S (.mp .str []) fun i2 S => newObj S (.obj 77 [.nilm]) fun i3 S => objAt S i3 fun ty c4 => stO c4 0 [(.map i2)] fun c5 => setS (S.set i3 (ty c5)) fun S => rounds (b0 k (fun o13 S => asPtr o13.2.1 fun i14 p15 => steps_plan_order_nils.fn k ((i14,p15),(),()) S fun r16 S => ifB (decide ((o13.1.length : Int) = (o13.1.length : Int))) (mkN (o13.1.length : Int) 1 fun m17 => newObj S (.obj 4 (zeros m17 [(.bool false)])) fun i18 S => newObj S (.obj 74 [.nilsl]) fun i19 S => objAt S i19 fun ty c20 => stO c20 0 [(.osl i18 0 1 m17)] fun c21 => setS (S.set i19 (ty c21)) fun S => rounds (b1 k (fun o48 S => objAt S o48.2.1.1 fun ty c49 => ldRaw c49 o48.2.1.2 fun v50 => lenO v50 fun n51 => rounds (b2 k (fun o62 S => K (o62.1,0,()) S)) k (o48.1,[],v50,(n51 : Int),0,()) S)) k (o13.1,(i14,p15),o13.2.2.1,(i19,0),r16.1,(r16.1.length : Int),0,()) S) none) K) k (x.1,r1.1,(i3,0),x.2.1,(x.2.1.length : Int),0,()) S))
def en0 (k : Nat) : Ent PG R := mkFn T_ok Tryz.func18 ps rs (C k) (.seq .auto (.seq (.own [(2,1)]) (.seq (.seq .auto (.cond (.seq .auto (.mask mr .auto)) .auto)) (.seq (.seq .auto (.cond (.seq .auto (.mask mr .auto)) .auto)) (.seq (.own [(1,1),(2,1)]) (.seq (.seq .auto (.block (.piece (L0 k).h))) (.seq (.asp 6 (.own [(0,2),(2,1)])) (.seq (.own [(3,1),(4,1)]) (.seq (.seq .auto (.block (.piece (L1 k).h))) (.seq .auto (.seq (.seq (.own [(0,4),(1,1)]) (.block (.piece (L2 k).h))) (.seq (.own [(0,1)]) (.mask mr .auto))))))))))))) ⟨tr,tr,⟨tr,⟨tr,tr⟩,tr⟩,⟨tr,⟨tr,tr⟩,tr⟩,tr,⟨tr,(L0 k).ok⟩,tr,tr,⟨tr,(L1 k).ok⟩,tr,⟨tr,(L2 k).ok⟩,tr,tr⟩ (fn0 k)
def fn (k : Nat) (x : (LL × LL × U1)) (S : LL) (K : Kt R T3) : Option R := popK rs 6 S (fn0 k x S fun r S => some (resE rs r,S)) K
def en (k : Nat) : Ent PG R := mkPop (rs := rs) (en0 k).ok
end G.steps_Suspects
namespace G.smithyardref1_within
abbrev ps : Mk := sI (sI (sI []))
abbrev rs : Mk := sB []
abbrev mr : Mk := n6 (sB (n8 []))
def C (k : Nat) : List (Ent PG R) := []
def fn (k : Nat) (x : (Int × Int × Int × U1)) (S : LL) (K : Kt R (Bool × U1)) : Option R :=
 ifB (decide (x.1 ≥ x.2.1)) (K ((decide (x.1 ≤ x.2.2.1)),()) S) (K (false,()) S)
def en (k : Nat) : Ent PG R := mkFn T_ok Tryz.func69 ps rs (C k) (.seq .auto (.seq .auto (.mask mr .auto))) ⟨tr,tr,tr⟩ (fn k)
end G.smithyardref1_within
namespace G.smithyardref1_partByte
abbrev ps : Mk := sh (.lf (.int .u8)) []
abbrev rs : Mk := sB []
abbrev mr : Mk := n2 (sB (nM 38 []))
def C (k : Nat) : List (Ent PG R) := []
def fn (k : Nat) (x : (Int × U1)) (S : LL) (K : Kt R (Bool × U1)) : Option R :=
 ifB (decide (x.1 ≥ 97)) (ifB (decide (x.1 ≤ 122)) (K (true,()) S) (ifB (decide (x.1 ≥ 65)) (ifB (decide (x.1 ≤ 90)) (K (true,()) S) (ifB (decide (x.1 ≥ 48)) (ifB (decide (x.1 ≤ 57)) (K (true,()) S) (ifB (x.1 == 46) (K (true,()) S) (ifB (x.1 == 95) (K (true,()) S) (ifB (x.1 == 45) (K (true,()) S) (K ((x.1 == 43),()) S))))) (ifB (x.1 == 46) (K (true,()) S) (ifB (x.1 == 95) (K (true,()) S) (ifB (x.1 == 45) (K (true,()) S) (K ((x.1 == 43),()) S)))))) (ifB (decide (x.1 ≥ 48)) (ifB (decide (x.1 ≤ 57)) (K (true,()) S) (ifB (x.1 == 46) (K (true,()) S) (ifB (x.1 == 95) (K (true,()) S) (ifB (x.1 == 45) (K (true,()) S) (K ((x.1 == 43),()) S))))) (ifB (x.1 == 46) (K (true,()) S) (ifB (x.1 == 95) (K (true,()) S) (ifB (x.1 == 45) (K (true,()) S) (K ((x.1 == 43),()) S))))))) (ifB (decide (x.1 ≥ 65)) (ifB (decide (x.1 ≤ 90)) (K (true,()) S) (ifB (decide (x.1 ≥ 48)) (ifB (decide (x.1 ≤ 57)) (K (true,()) S) (ifB (x.1 == 46) (K (true,()) S) (ifB (x.1 == 95) (K (true,()) S) (ifB (x.1 == 45) (K (true,()) S) (K ((x.1 == 43),()) S))))) (ifB (x.1 == 46) (K (true,()) S) (ifB (x.1 == 95) (K (true,()) S) (ifB (x.1 == 45) (K (true,()) S) (K ((x.1 == 43),()) S)))))) (ifB (decide (x.1 ≥ 48)) (ifB (decide (x.1 ≤ 57)) (K (true,()) S) (ifB (x.1 == 46) (K (true,()) S) (ifB (x.1 == 95) (K (true,()) S) (ifB (x.1 == 45) (K (true,()) S) (K ((x.1 == 43),()) S))))) (ifB (x.1 == 46) (K (true,()) S) (ifB (x.1 == 95) (K (true,()) S) (ifB (x.1 == 45) (K (true,()) S) (K ((x.1 == 43),()) S))))))
def en (k : Nat) : Ent PG R := mkFn T_ok Tryz.func101 ps rs (C k) (.seq .auto (.seq .auto (.mask mr .auto))) ⟨tr,tr,tr⟩ (fn k)
end G.smithyardref1_partByte
namespace G.smithyardref1_isPart
abbrev ps : Mk := sS []
abbrev rs : Mk := sB []
abbrev e0 : Mk := sS (nM 24 [])
abbrev m0 : Mk := sS (n2 (sI (nM 21 [])))
abbrev mr : Mk := n2 (sB (nM 22 []))
def C (k : Nat) : List (Ent PG R) := [smithyardref1_partByte.en k]
def b0 (k : Nat) (J0 : Kt R (BA × U1)) (Jret : Kt R (Bool × U1)) (rec : Kt R (BA × Int × U1)) (x : (BA × Int × U1)) (S : LL) : Option R :=
 ifB (decide (x.2.1 < (x.1.size : Int))) (idxStr x.1 x.2.1 fun c1 => smithyardref1_partByte.fn k (c1,()) S fun r2 S => ifB (!r2.1) (Jret (false,()) S) (rec (x.1,(IntKind.wrap .i64 (x.2.1 + 1)),()) S)) (J0 (x.1,()) S)
def L0 (k : Nat) : Pc PG R (.loop (su Tryz.f70 37)) := mkLoop T_ok (C k) _ m0 k (.seq (.seq .auto (.cond .auto (.mask e0 .auto))) (.seq (.block (.seq .auto (.cond (.seq .auto (.mask mr .auto)) .auto))) .auto)) ⟨⟨tr,tr,tr⟩,⟨tr,⟨tr,tr⟩,tr⟩,tr⟩ (fun K => b0 k (kX K 0 e0) (kR K mr))
def fn (k : Nat) (x : (BA × U1)) (S : LL) (K : Kt R (Bool × U1)) : Option R :=
 rounds (b0 k (fun o3 S => ifB (!(strEq o3.1 (bs []))) (ifB (!(strEq o3.1 (bs [46]))) (K ((!(strEq o3.1 (bs [46,46]))),()) S) (K (false,()) S)) (K (false,()) S)) K) k (x.1,0,()) S
def en (k : Nat) : Ent PG R := mkFn T_ok Tryz.func70 ps rs (C k) (.seq .auto (.seq (.seq .auto (.block (.piece (L0 k).h))) (.seq .auto (.mask mr .auto)))) ⟨tr,⟨tr,(L0 k).ok⟩,tr,tr⟩ (fn k)
end G.smithyardref1_isPart
namespace G.smithyardref1_IsPath
abbrev ps : Mk := sS []
abbrev rs : Mk := sB []
abbrev e0 : Mk := nM 23 []
abbrev m0 : Mk := n3 (sL 1 (sI (nM 18 [])))
abbrev mr : Mk := n2 (sB (nM 20 []))
def C (k : Nat) : List (Ent PG R) := [strings_Split.en k,smithyardref1_within.en k,smithyardref1_isPart.en k]
def b0 (k : Nat) (J0 : Kt R (U1)) (Jret : Kt R (Bool × U1)) (rec : Kt R (LL × Int × U1)) (x : (LL × Int × U1)) (S : LL) : Option R :=
 ifB (decide (x.2.1 < (x.1.length : Int))) (idxL x.1 x.2.1 fun v3 => asStr (leaf v3 0) fun s4 => smithyardref1_isPart.fn k (s4,()) S fun r5 S => ifB (!r5.1) (Jret (false,()) S) (rec (x.1,(IntKind.wrap .i64 (x.2.1 + 1)),()) S)) (J0 (()) S)
def L0 (k : Nat) : Pc PG R (.loop (su Tryz.f41 151)) := mkLoop T_ok (C k) _ m0 k (.seq (.seq .auto (.cond .auto (.mask e0 .auto))) (.seq (.block (.seq .auto (.cond (.seq .auto (.mask mr .auto)) .auto))) .auto)) ⟨⟨tr,tr,tr⟩,⟨tr,⟨tr,tr⟩,tr⟩,tr⟩ (fun K => b0 k (kX K 0 e0) (kR K mr))
def fn (k : Nat) (x : (BA × U1)) (S : LL) (K : Kt R (Bool × U1)) : Option R :=
 smithyardref1_within.fn k ((x.1.size : Int),1,200,()) S fun r1 S => ifB (!r1.1) (K (false,()) S) (strings_Split.fn k (x.1,(bs [47]),()) S fun r2 S => rounds (b0 k (fun o6 S => K (true,()) S) K) k (r2.1,0,()) S)
def en (k : Nat) : Ent PG R := mkFn T_ok Tryz.func41 ps rs (C k) (.seq .auto (.seq (.seq .auto (.cond (.seq .auto (.mask mr .auto)) .auto)) (.seq .auto (.seq (.seq .auto (.block (.piece (L0 k).h))) (.seq .auto (.mask mr .auto)))))) ⟨tr,⟨tr,⟨tr,tr⟩,tr⟩,tr,⟨tr,(L0 k).ok⟩,tr,tr⟩ (fn k)
end G.smithyardref1_IsPath
namespace G.smithyardref1_IsDigest
abbrev ps : Mk := sS []
abbrev rs : Mk := sB []
abbrev c0 : Mk := sS (n2 (sI (nM 32 [])))
abbrev e0 : Mk := sS (nM 35 [])
abbrev mr : Mk := n2 (sB (nM 33 []))
abbrev T0 := BA × Int × U1
def C (k : Nat) : List (Ent PG R) := []
def q0 (k : Nat) (Jnrm : Kt R T0)  (x : T0) (S : LL) : Option R :=
 Jnrm (x.1,(IntKind.wrap .i64 (x.2.1 + 1)),()) S
def Q0 (k : Nat) : Pc PG R (su Tryz.f93 229) := mkEnd T_ok (C k) _ c0 c0 (.auto) tr (fun x S K => q0 k (kN K c0) x S)
def b0 (k : Nat) (J0 : Kt R (BA × U1)) (Jret : Kt R (Bool × U1)) (rec : Kt R T0) (x : T0) (S : LL) : Option R :=
 ifB (decide (x.2.1 < (x.1.size : Int))) (idxStr x.1 x.2.1 fun c1 => ifB (decide (c1 ≥ 48)) (idxStr x.1 x.2.1 fun c2 => ifB (decide (c2 ≤ 57)) (ifB (!true) (Jret (false,()) S) (q0 k rec x S)) (idxStr x.1 x.2.1 fun c4 => ifB (decide (c4 ≥ 97)) (idxStr x.1 x.2.1 fun c5 => ifB (!(decide (c5 ≤ 102))) (Jret (false,()) S) (q0 k rec x S)) (ifB (!false) (Jret (false,()) S) (q0 k rec x S)))) (idxStr x.1 x.2.1 fun c8 => ifB (decide (c8 ≥ 97)) (idxStr x.1 x.2.1 fun c9 => ifB (!(decide (c9 ≤ 102))) (Jret (false,()) S) (q0 k rec x S)) (ifB (!false) (Jret (false,()) S) (q0 k rec x S)))) (J0 (x.1,()) S)
def L0 (k : Nat) : Pc PG R (.loop (su Tryz.f93 37)) := mkLoop T_ok (C k) _ c0 k (.seq (.seq .auto (.cond .auto (.mask e0 .auto))) (.seq (.block (.seq .auto (.cond (.seq .auto (.mask mr .auto)) .auto))) (.piece (Q0 k).h))) ⟨⟨tr,tr,tr⟩,⟨tr,⟨tr,tr⟩,tr⟩,(Q0 k).ok⟩ (fun K => b0 k (kX K 0 e0) (kR K mr))
def fn (k : Nat) (x : (BA × U1)) (S : LL) (K : Kt R (Bool × U1)) : Option R :=
 rounds (b0 k (fun o12 S => K (((o12.1.size : Int) == 16),()) S) K) k (x.1,0,()) S
def en (k : Nat) : Ent PG R := mkFn T_ok Tryz.func93 ps rs (C k) (.seq .auto (.seq (.seq .auto (.block (.piece (L0 k).h))) (.seq .auto (.mask mr .auto)))) ⟨tr,⟨tr,(L0 k).ok⟩,tr,tr⟩ (fn k)
end G.smithyardref1_IsDigest
namespace G.smithyardref5_within
abbrev ps : Mk := sI (sI (sI []))
abbrev rs : Mk := sB []
abbrev mr : Mk := n6 (sB (n8 []))
def C (k : Nat) : List (Ent PG R) := []
def fn (k : Nat) (x : (Int × Int × Int × U1)) (S : LL) (K : Kt R (Bool × U1)) : Option R :=
 ifB (decide (x.1 ≥ x.2.1)) (K ((decide (x.1 ≤ x.2.2.1)),()) S) (K (false,()) S)
def en (k : Nat) : Ent PG R := mkFn T_ok Tryz.func97 ps rs (C k) (.seq .auto (.seq .auto (.mask mr .auto))) ⟨tr,tr,tr⟩ (fn k)
end G.smithyardref5_within
namespace G.smithyardref5_bytesIn
abbrev ps : Mk := sS (sh (.lf (.int .u8)) (sh (.lf (.int .u8)) []))
abbrev rs : Mk := sB []
abbrev e0 : Mk := nM 26 []
abbrev m0 : Mk := sS (sh (.lf (.int .u8)) (sh (.lf (.int .u8)) (n4 (sI (nM 18 [])))))
abbrev mr : Mk := n6 (sB (nM 19 []))
abbrev T0 := BA × Int × Int × Int × U1
def C (k : Nat) : List (Ent PG R) := []
def b0 (k : Nat) (J0 : Kt R (U1)) (Jret : Kt R (Bool × U1)) (rec : Kt R T0) (x : T0) (S : LL) : Option R :=
 ifB (decide (x.2.2.2.1 < (x.1.size : Int))) (idxStr x.1 x.2.2.2.1 fun c1 => ifB (decide (c1 < x.2.1)) (Jret (false,()) S) (idxStr x.1 x.2.2.2.1 fun c2 => ifB (decide (c2 > x.2.2.1)) (Jret (false,()) S) (rec (x.1,x.2.1,x.2.2.1,(IntKind.wrap .i64 (x.2.2.2.1 + 1)),()) S))) (J0 (()) S)
def L0 (k : Nat) : Pc PG R (.loop (su Tryz.f126 37)) := mkLoop T_ok (C k) _ m0 k (.seq (.seq .auto (.cond .auto (.mask e0 .auto))) (.seq (.block (.seq .auto (.cond (.seq .auto (.mask mr .auto)) .auto))) .auto)) ⟨⟨tr,tr,tr⟩,⟨tr,⟨tr,tr⟩,tr⟩,tr⟩ (fun K => b0 k (kX K 0 e0) (kR K mr))
def fn (k : Nat) (x : (BA × Int × Int × U1)) (S : LL) (K : Kt R (Bool × U1)) : Option R :=
 rounds (b0 k (fun o3 S => K (true,()) S) K) k (x.1,x.2.1,x.2.2.1,0,()) S
def en (k : Nat) : Ent PG R := mkFn T_ok Tryz.func126 ps rs (C k) (.seq .auto (.seq (.seq .auto (.block (.piece (L0 k).h))) (.seq .auto (.mask mr .auto)))) ⟨tr,⟨tr,(L0 k).ok⟩,tr,tr⟩ (fn k)
end G.smithyardref5_bytesIn
namespace G.smithyardref5_form
abbrev ps : Mk := sS []
abbrev rs : Mk := sS (sB [])
abbrev c0 : Mk := n4 (sS (n2 (sB (nM 21 []))))
abbrev c1 : Mk := n4 (sS (nX (sB (nM 13 []))))
abbrev c2 : Mk := n4 (sS (nM 12 (sB (nM 11 []))))
abbrev c3 : Mk := n4 (sS (nM 14 (sB (n9 []))))
abbrev c4 : Mk := n4 (sS (nM 16 (sB (n7 []))))
abbrev c5 : Mk := n4 (sS (nM 18 (sB (n5 []))))
abbrev c6 : Mk := n4 (sS (nM 20 (sB (n3 []))))
abbrev z0 : Mk := nM 29 []
abbrev mr : Mk := n2 (sS (sB (nM 25 [])))
abbrev T0 := BA × Bool × U1
def C (k : Nat) : List (Ent PG R) := []
def q6 (k : Nat) (Jnrm : Kt R (U1)) (Jret : Kt R T0) (x : T0) (S : LL) : Option R :=
 ifB x.2.1 (Jret ((bs [112]),true,()) S) (ifB (strEq x.1 (bs [102,97,105,108])) (Jret ((bs [110]),true,()) S) (Jnrm (()) S))
def Q6 (k : Nat) : Pc PG R (su Tryz.f127 1048565) := mkEnd T_ok (C k) _ c6 z0 (.cond (.seq .auto (.mask mr .auto)) (.seq .auto (.cond (.seq .auto (.mask mr .auto)) .auto))) ⟨⟨tr,tr⟩,tr,⟨tr,tr⟩,tr⟩ (fun x S K => q6 k (kN K z0) (kR K mr) x S)
def q5 (k : Nat) (Jnrm : Kt R (U1)) (Jret : Kt R T0) (x : T0) (S : LL) : Option R :=
 ifB x.2.1 (Jret ((bs [119,43]),true,()) S) (q6 k (fun o1 S => Jnrm (()) S) Jret (x.1,(strEq x.1 (bs [110,101,101,100])),()) S)
def Q5 (k : Nat) : Pc PG R (su Tryz.f127 262133) := mkEnd T_ok (C k) _ c5 z0 (.cond (.seq .auto (.mask mr .auto)) (.seq .auto (.piece (Q6 k).h))) ⟨⟨tr,tr⟩,tr,(Q6 k).ok⟩ (fun x S K => q5 k (kN K z0) (kR K mr) x S)
def q4 (k : Nat) (Jnrm : Kt R (U1)) (Jret : Kt R T0) (x : T0) (S : LL) : Option R :=
 ifB x.2.1 (Jret ((bs [112,119]),true,()) S) (q5 k (fun o3 S => Jnrm (()) S) Jret (x.1,(strEq x.1 (bs [116,101,108,108])),()) S)
def Q4 (k : Nat) : Pc PG R (su Tryz.f127 65525) := mkEnd T_ok (C k) _ c4 z0 (.cond (.seq .auto (.mask mr .auto)) (.seq .auto (.piece (Q5 k).h))) ⟨⟨tr,tr⟩,tr,(Q5 k).ok⟩ (fun x S K => q4 k (kN K z0) (kR K mr) x S)
def q3 (k : Nat) (Jnrm : Kt R (U1)) (Jret : Kt R T0) (x : T0) (S : LL) : Option R :=
 ifB x.2.1 (Jret ((bs [112,112,112,43]),true,()) S) (q4 k (fun o5 S => Jnrm (()) S) Jret (x.1,(strEq x.1 (bs [118,97,114])),()) S)
def Q3 (k : Nat) : Pc PG R (su Tryz.f127 16373) := mkEnd T_ok (C k) _ c3 z0 (.cond (.seq .auto (.mask mr .auto)) (.seq .auto (.piece (Q4 k).h))) ⟨⟨tr,tr⟩,tr,(Q4 k).ok⟩ (fun x S K => q3 k (kN K z0) (kR K mr) x S)
def q2 (k : Nat) (Jnrm : Kt R (U1)) (Jret : Kt R T0) (x : T0) (S : LL) : Option R :=
 ifB x.2.1 (Jret ((bs [112,119,119,112]),true,()) S) (q3 k (fun o7 S => Jnrm (()) S) Jret (x.1,(strEq x.1 (bs [112,105,99,107])),()) S)
def Q2 (k : Nat) : Pc PG R (su Tryz.f127 4085) := mkEnd T_ok (C k) _ c2 z0 (.cond (.seq .auto (.mask mr .auto)) (.seq .auto (.piece (Q3 k).h))) ⟨⟨tr,tr⟩,tr,(Q3 k).ok⟩ (fun x S K => q2 k (kN K z0) (kR K mr) x S)
def q1 (k : Nat) (Jnrm : Kt R (U1)) (Jret : Kt R T0) (x : T0) (S : LL) : Option R :=
 ifB x.2.1 (Jret ((bs [112,110,112]),true,()) S) (q2 k (fun o9 S => Jnrm (()) S) Jret (x.1,(strEq x.1 (bs [99,104,97,110,103,101])),()) S)
def Q1 (k : Nat) : Pc PG R (su Tryz.f127 1013) := mkEnd T_ok (C k) _ c1 z0 (.cond (.seq .auto (.mask mr .auto)) (.seq .auto (.piece (Q2 k).h))) ⟨⟨tr,tr⟩,tr,(Q2 k).ok⟩ (fun x S K => q1 k (kN K z0) (kR K mr) x S)
def q0 (k : Nat) (Jnrm : Kt R (U1)) (Jret : Kt R T0) (x : T0) (S : LL) : Option R :=
 ifB x.2.1 (Jret ((bs [112,112]),true,()) S) (q1 k (fun o11 S => Jnrm (()) S) Jret (x.1,(strEq x.1 (bs [102,105,114,115,116])),()) S)
def Q0 (k : Nat) : Pc PG R (su Tryz.f127 245) := mkEnd T_ok (C k) _ c0 z0 (.cond (.seq .auto (.mask mr .auto)) (.seq .auto (.piece (Q1 k).h))) ⟨⟨tr,tr⟩,tr,(Q1 k).ok⟩ (fun x S K => q0 k (kN K z0) (kR K mr) x S)
def fn (k : Nat) (x : (BA × U1)) (S : LL) (K : Kt R T0) : Option R :=
 ifB (strEq x.1 (bs [106,111,105,110])) (K ((bs [112,112,43]),true,()) S) (ifB (strEq x.1 (bs [115,111,114,116])) (q0 k (fun o13 S => K ((bs []),false,()) S) K (x.1,(strEq x.1 (bs [115,111,114,116])),()) S) (ifB (strEq x.1 (bs [99,111,117,110,116])) (q0 k (fun o15 S => K ((bs []),false,()) S) K (x.1,(strEq x.1 (bs [99,111,117,110,116])),()) S) (ifB (strEq x.1 (bs [101,120,112,97,110,100])) (q0 k (fun o17 S => K ((bs []),false,()) S) K (x.1,(strEq x.1 (bs [101,120,112,97,110,100])),()) S) (ifB (strEq x.1 (bs [109,97,107,101])) (q0 k (fun o19 S => K ((bs []),false,()) S) K (x.1,(strEq x.1 (bs [109,97,107,101])),()) S) (ifB (strEq x.1 (bs [100,105,103,101,115,116])) (q0 k (fun o21 S => K ((bs []),false,()) S) K (x.1,(strEq x.1 (bs [100,105,103,101,115,116])),()) S) (ifB (strEq x.1 (bs [108,105,115,116])) (q0 k (fun o23 S => K ((bs []),false,()) S) K (x.1,(strEq x.1 (bs [108,105,115,116])),()) S) (q0 k (fun o25 S => K ((bs []),false,()) S) K (x.1,(strEq x.1 (bs [115,97,109,101])),()) S)))))))
def en (k : Nat) : Ent PG R := mkFn T_ok Tryz.func127 ps rs (C k) (.seq .auto (.seq (.seq .auto (.block (.seq .auto (.cond (.seq .auto (.mask mr .auto)) (.seq (.seq .auto (.cond .auto (.seq .auto (.cond .auto (.seq .auto (.cond .auto (.seq .auto (.cond .auto (.seq .auto (.cond .auto (.seq .auto (.cond .auto .auto)))))))))))) (.piece (Q0 k).h)))))) (.seq .auto (.mask mr .auto)))) ⟨tr,⟨tr,tr,⟨tr,tr⟩,⟨tr,tr,tr,tr,tr,tr,tr,tr,tr,tr,tr,tr,tr⟩,(Q0 k).ok⟩,tr,tr⟩ (fn k)
end G.smithyardref5_form
namespace G.smithyardref5_numbered
abbrev ps : Mk := sS (sI [])
abbrev rs : Mk := sI (sB [])
abbrev c0 : Mk := sS (nM 36 [])
abbrev c1 : Mk := n6 (sI (nM 30 []))
abbrev mr : Mk := n4 (sI (sB (nM 31 [])))
abbrev T0 := Int × Bool × U1
def C (k : Nat) : List (Ent PG R) := [smithyardref5_bytesIn.en k,⟨214,H.Atoi.h k,H.Atoi.ok k⟩]
def q1 (k : Nat) (Jret : Kt R T0) (x : (Int × U1)) (S : LL) : Option R :=
 Jret (x.1,true,()) S
def Q1 (k : Nat) : Pc PG R (su Tryz.f204 15) := mkCut T_ok (C k) _ c1 (.seq .auto (.mask mr .auto)) ⟨tr,tr⟩ (fun x S K => q1 k (kR K mr) x S)
def q0 (k : Nat) (Jret : Kt R T0) (x : (BA × U1)) (S : LL) : Option R :=
 H.Atoi.fn k x S fun r3 S => q1 k Jret (r3.1,()) S
def Q0 (k : Nat) : Pc PG R (su Tryz.f204 7) := mkCut T_ok (C k) _ c0 (.seq (.own [(2,1)]) (.piece (Q1 k).h)) ⟨tr,(Q1 k).ok⟩ (fun x S K => q0 k (kR K mr) x S)
def fn (k : Nat) (x : (BA × Int × U1)) (S : LL) (K : Kt R T0) : Option R :=
 ifB (strEq x.1 (bs [])) (K (0,false,()) S) (ifB (decide ((x.1.size : Int) > x.2.1)) (K (0,false,()) S) (ifB (decide ((x.1.size : Int) > 1)) (idxStr x.1 (0 : Int) fun c1 => ifB (c1 == 48) (K (0,false,()) S) (smithyardref5_bytesIn.fn k (x.1,48,57,()) S fun r2 S => ifB (!r2.1) (K (0,false,()) S) (q0 k K (x.1,()) S))) (smithyardref5_bytesIn.fn k (x.1,48,57,()) S fun r6 S => ifB (!r6.1) (K (0,false,()) S) (q0 k K (x.1,()) S))))
def en (k : Nat) : Ent PG R := mkFn T_ok Tryz.func204 ps rs (C k) (.seq .auto (.seq (.seq .auto (.cond (.seq .auto (.mask mr .auto)) .auto)) (.piece (Q0 k).h))) ⟨tr,⟨tr,⟨tr,tr⟩,tr⟩,(Q0 k).ok⟩ (fn k)
end G.smithyardref5_numbered
namespace G.smithyardref5_fits
abbrev ps : Mk := sh (.lf (.int .u8)) (sS [])
abbrev rs : Mk := sB []
abbrev mr : Mk := n4 (sB (nM 15 []))
def C (k : Nat) : List (Ent PG R) := [smithyardref1_IsPath.en k,smithyardref5_numbered.en k]
def fn (k : Nat) (x : (Int × BA × U1)) (S : LL) (K : Kt R (Bool × U1)) : Option R :=
 ifB (x.1 == 112) (smithyardref1_IsPath.fn k x.2 S K) (ifB (x.1 == 110) (smithyardref5_numbered.fn k (x.2.1,6,()) S fun r2 S => K r2.2 S) (K (true,()) S))
def en (k : Nat) : Ent PG R := mkFn T_ok Tryz.func179 ps rs (C k) (.seq .auto (.seq (.seq .auto (.block (.seq .auto (.cond (.seq .auto (.mask mr .auto)) (.seq .auto (.cond (.seq (.own [(2,1)]) (.seq .auto (.mask mr .auto))) .auto)))))) (.seq .auto (.mask mr .auto)))) ⟨tr,⟨tr,tr,⟨tr,tr⟩,tr,⟨tr,tr,tr⟩,tr⟩,tr,tr⟩ (fn k)
end G.smithyardref5_fits
namespace G.smithyardref5_formed
abbrev ps : Mk := sL 1 []
abbrev rs : Mk := sB []
abbrev c0 : Mk := sL 1 (n2 (sS (n2 (sL 1 (nM 60 [])))))
abbrev c1 : Mk := sL 1 (n2 (sS (n2 (sL 1 (sI (nM 59 []))))))
abbrev c4 : Mk := sL 1 (n5 (sL 1 (nM 60 [])))
abbrev mr : Mk := n2 (sB (nM 64 []))
abbrev T2 := Bool × U1
abbrev T1 := LL × LL × U1
abbrev T0 := LL × BA × LL × Int × U1
def C (k : Nat) : List (Ent PG R) := [smithyardref5_form.en k,strings_CutSuffix.en k,smithyardref5_fits.en k]
def q3 (k : Nat) (Jnrm : Kt R T0)  (x : T0) (S : LL) : Option R :=
 Jnrm (x.1,x.2.1,x.2.2.1,(IntKind.wrap .i64 (x.2.2.2.1 + 1)),()) S
def Q3 (k : Nat) : Pc PG R (su Tryz.f128 3679) := mkEnd T_ok (C k) _ c1 c1 (.auto) tr (fun x S K => q3 k (kN K c1) x S)
def q2 (k : Nat) (Jnrm : Kt R T0) (Jret : Kt R T2) (x : T0) (S : LL) : Option R :=
 idxStr x.2.1 (minI x.2.2.2.1 (IntKind.wrap .i64 ((x.2.1.size : Int) - 1))) fun c6 => idxL x.2.2.1 x.2.2.2.1 fun v7 => asStr (leaf v7 0) fun s8 => smithyardref5_fits.fn k (c6,s8,()) S fun r9 S => ifB (!r9.1) (Jret (false,()) S) (q3 k Jnrm x S)
def Q2 (k : Nat) : Pc PG R (su Tryz.f128 1631) := mkEnd T_ok (C k) _ c1 c1 (.seq (.block (.seq (.drawn [] [0,1,2,3,4,5,6,7,8,9,10,11,12]) (.cond (.seq .auto (.mask mr .auto)) .auto))) (.piece (Q3 k).h)) ⟨⟨(drawn_an (by kernel_rfl)),⟨tr,tr⟩,tr⟩,(Q3 k).ok⟩ (fun x S K => q2 k (kN K c1) (kR K mr) x S)
def b0 (k : Nat) (J0 : Kt R T1) (Jret : Kt R T2) (rec : Kt R T0) (x : T0) (S : LL) : Option R :=
 ifB (decide (x.2.2.2.1 < (x.2.2.1.length : Int))) (q2 k rec Jret x S) (J0 (x.1,x.2.2.1,()) S)
def L0 (k : Nat) : Pc PG R (.loop (su Tryz.f128 607)) := mkLoop T_ok (C k) _ c1 k (.seq (.seq .auto (.cond .auto (.mask c4 .auto))) (.piece (Q2 k).h)) ⟨⟨tr,tr,tr⟩,(Q2 k).ok⟩ (fun K => b0 k (kX K 0 c4) (kR K mr))
def q1 (k : Nat) (Jnrm : Kt R T1) (Jret : Kt R T2) (x : T0) (S : LL) : Option R :=
 rounds (b0 k Jnrm Jret) k x S
def Q1 (k : Nat) : Pc PG R (su Tryz.f128 223) := mkEnd T_ok (C k) _ c1 c4 (.block (.piece (L0 k).h)) (L0 k).ok (fun x S K => q1 k (kN K c4) (kR K mr) x S)
def q4 (k : Nat) (Jret : Kt R T2) (x : T1) (S : LL) : Option R :=
 idxL x.1 (0 : Int) fun v16 => asStr (leaf v16 0) fun s17 => ifB (!(strEq s17 (bs [102,97,105,108]))) (Jret (true,()) S) (idxL x.2.1 (0 : Int) fun v18 => asStr (leaf v18 0) fun s19 => Jret ((!(strEq s19 (bs [48]))),()) S)
def Q4 (k : Nat) : Pc PG R (su Tryz.f128 127) := mkCut T_ok (C k) _ c4 (.seq .auto (.mask mr .auto)) ⟨tr,tr⟩ (fun x S K => q4 k (kR K mr) x S)
def q0 (k : Nat) (Jret : Kt R T2) (x : (LL × BA × LL × U1)) (S : LL) : Option R :=
 q1 k (fun o15 S => q4 k Jret o15 S) Jret (x.1,x.2.1,x.2.2.1,0,()) S
def Q0 (k : Nat) : Pc PG R (su Tryz.f128 63) := mkCut T_ok (C k) _ c0 (.seq (.seq .auto (.piece (Q1 k).h)) (.piece (Q4 k).h)) ⟨⟨tr,(Q1 k).ok⟩,(Q4 k).ok⟩ (fun x S K => q0 k (kR K mr) x S)
def fn (k : Nat) (x : (LL × U1)) (S : LL) (K : Kt R T2) : Option R :=
 idxL x.1 (0 : Int) fun v1 => asStr (leaf v1 0) fun s2 => smithyardref5_form.fn k (s2,()) S fun r3 S => strings_CutSuffix.fn k (r3.1,(bs [43]),()) S fun r4 S => slL x.1 (1 : Int) (x.1.length : Int) fun l5 => ifB (decide ((l5.length : Int) < (r4.1.size : Int))) (K (false,()) S) (ifB (decide ((l5.length : Int) > (r4.1.size : Int))) (ifB (!r4.2.1) (K (false,()) S) (q0 k K (x.1,r4.1,l5,()) S)) (q0 k K (x.1,r4.1,l5,()) S))
def en (k : Nat) : Ent PG R := mkFn T_ok Tryz.func128 ps rs (C k) (.seq .auto (.seq (.own [(4,1)]) (.seq (.own [(2,1)]) (.seq .auto (.seq (.seq .auto (.cond (.seq .auto (.mask mr .auto)) .auto)) (.piece (Q0 k).h)))))) ⟨tr,tr,tr,tr,⟨tr,⟨tr,tr⟩,tr⟩,(Q0 k).ok⟩ (fn k)
end G.smithyardref5_formed
namespace G.smithyardref5_checkCommand
abbrev ps : Mk := sL 1 []
abbrev rs : Mk := sI []
abbrev e0 : Mk := sL 1 (nM 44 [])
abbrev m0 : Mk := sL 1 (n2 (sI (nM 41 [])))
abbrev mr : Mk := n2 (sI (nM 42 []))
def C (k : Nat) : List (Ent PG R) := [smithyardref5_within.en k,smithyardref5_bytesIn.en k,smithyardref5_form.en k,smithyardref5_formed.en k]
def b0 (k : Nat) (J0 : Kt R (LL × U1)) (Jret : Kt R (Int × U1)) (rec : Kt R (LL × Int × U1)) (x : (LL × Int × U1)) (S : LL) : Option R :=
 ifB (decide (x.2.1 < (x.1.length : Int))) (idxL x.1 x.2.1 fun v1 => asStr (leaf v1 0) fun s2 => smithyardref5_within.fn k ((s2.size : Int),1,300,()) S fun r3 S => ifB (!r3.1) (Jret ((3 : Int),()) S) (idxL x.1 x.2.1 fun v4 => asStr (leaf v4 0) fun s5 => smithyardref5_bytesIn.fn k (s5,33,126,()) S fun r6 S => ifB (!r6.1) (Jret ((3 : Int),()) S) (rec (x.1,(IntKind.wrap .i64 (x.2.1 + 1)),()) S))) (J0 (x.1,()) S)
def L0 (k : Nat) : Pc PG R (.loop (su Tryz.f94 151)) := mkLoop T_ok (C k) _ m0 k (.seq (.seq .auto (.cond .auto (.mask e0 .auto))) (.seq (.block (.seq .auto (.cond (.seq .auto (.mask mr .auto)) .auto))) .auto)) ⟨⟨tr,tr,tr⟩,⟨tr,⟨tr,tr⟩,tr⟩,tr⟩ (fun K => b0 k (kX K 0 e0) (kR K mr))
def fn (k : Nat) (x : (LL × U1)) (S : LL) (K : Kt R (Int × U1)) : Option R :=
 ifB ((x.1.length : Int) == 0) (K (9,()) S) (ifB (decide ((x.1.length : Int) > 50)) (K (2,()) S) (rounds (b0 k (fun o7 S => idxL o7.1 (0 : Int) fun v8 => asStr (leaf v8 0) fun s9 => smithyardref5_form.fn k (s9,()) S fun r10 S => ifB (!r10.2.1) (K (4,()) S) (smithyardref5_formed.fn k o7 S fun r11 S => ifB (!r11.1) (K (3,()) S) (K (0,()) S))) K) k (x.1,0,()) S))
def en (k : Nat) : Ent PG R := mkFn T_ok Tryz.func94 ps rs (C k) (.seq .auto (.seq (.seq .auto (.cond (.seq .auto (.mask mr .auto)) .auto)) (.seq (.seq .auto (.cond (.seq .auto (.mask mr .auto)) .auto)) (.seq (.seq .auto (.block (.piece (L0 k).h))) (.seq (.seq (.own [(4,1)]) (.seq .auto (.cond (.seq .auto (.mask mr .auto)) .auto))) (.seq (.seq .auto (.cond (.seq .auto (.mask mr .auto)) .auto)) (.seq .auto (.mask mr .auto)))))))) ⟨tr,⟨tr,⟨tr,tr⟩,tr⟩,⟨tr,⟨tr,tr⟩,tr⟩,⟨tr,(L0 k).ok⟩,⟨tr,tr,⟨tr,tr⟩,tr⟩,⟨tr,⟨tr,tr⟩,tr⟩,tr,tr⟩ (fn k)
end G.smithyardref5_checkCommand
namespace G.smithyardref4_within
abbrev ps : Mk := sI (sI (sI []))
abbrev rs : Mk := sB []
abbrev mr : Mk := n6 (sB (n8 []))
def C (k : Nat) : List (Ent PG R) := []
def fn (k : Nat) (x : (Int × Int × Int × U1)) (S : LL) (K : Kt R (Bool × U1)) : Option R :=
 ifB (decide (x.1 ≥ x.2.1)) (K ((decide (x.1 ≤ x.2.2.1)),()) S) (K (false,()) S)
def en (k : Nat) : Ent PG R := mkFn T_ok Tryz.func180 ps rs (C k) (.seq .auto (.seq .auto (.mask mr .auto))) ⟨tr,tr,tr⟩ (fn k)
end G.smithyardref4_within
namespace G.smithyardref4_IsName
abbrev ps : Mk := sS []
abbrev rs : Mk := sB []
abbrev c0 : Mk := sS (n2 (sI (nM 49 [])))
abbrev c1 : Mk := sS (n2 (sI (sh (.lf (.int .u8)) (sB (nM 47 [])))))
abbrev c2 : Mk := sS (nM 52 [])
abbrev mr : Mk := n2 (sB (nM 50 []))
abbrev T1 := Bool × U1
abbrev T0 := BA × Int × U1
def C (k : Nat) : List (Ent PG R) := [smithyardref4_within.en k]
def q1 (k : Nat) (Jnrm : Kt R T0) (Jret : Kt R T1) (x : (BA × Int × Int × Bool × U1)) (S : LL) : Option R :=
 ifB (!x.2.2.2.1) (ifB (x.2.1 == 0) (Jret (false,()) S) (ifB (x.2.2.1 != 95) (ifB (decide (x.2.2.1 ≥ 48)) (ifB (!(decide (x.2.2.1 ≤ 57))) (Jret (false,()) S) (Jnrm (x.1,x.2.1,()) S)) (ifB (!false) (Jret (false,()) S) (Jnrm (x.1,x.2.1,()) S))) (Jnrm (x.1,x.2.1,()) S))) (Jnrm (x.1,x.2.1,()) S)
def Q1 (k : Nat) : Pc PG R (su Tryz.f129 1829) := mkEnd T_ok (C k) _ c1 c0 (.seq .auto (.cond (.seq .auto (.mask mr .auto)) .auto)) ⟨tr,⟨tr,tr⟩,tr⟩ (fun x S K => q1 k (kN K c0) (kR K mr) x S)
def q0 (k : Nat) (Jnrm : Kt R T0)  (x : T0) (S : LL) : Option R :=
 Jnrm (x.1,(IntKind.wrap .i64 (x.2.1 + 1)),()) S
def Q0 (k : Nat) : Pc PG R (su Tryz.f129 229) := mkEnd T_ok (C k) _ c0 c0 (.auto) tr (fun x S K => q0 k (kN K c0) x S)
def b0 (k : Nat) (J0 : Kt R (BA × U1)) (Jret : Kt R T1) (rec : Kt R T0) (x : T0) (S : LL) : Option R :=
 ifB (decide (x.2.1 < (x.1.size : Int))) (idxStr x.1 x.2.1 fun c1 => ifB (decide (c1 ≥ 97)) (q1 k (fun o2 S => q0 k rec o2 S) Jret (x.1,x.2.1,c1,(decide (c1 ≤ 122)),()) S) (q1 k (fun o5 S => q0 k rec o5 S) Jret (x.1,x.2.1,c1,false,()) S)) (J0 (x.1,()) S)
def L0 (k : Nat) : Pc PG R (.loop (su Tryz.f129 37)) := mkLoop T_ok (C k) _ c0 k (.seq (.seq .auto (.cond .auto (.mask c2 .auto))) (.seq (.block (.seq .auto (.seq .auto (.piece (Q1 k).h)))) (.piece (Q0 k).h))) ⟨⟨tr,tr,tr⟩,⟨tr,tr,(Q1 k).ok⟩,(Q0 k).ok⟩ (fun K => b0 k (kX K 0 c2) (kR K mr))
def q2 (k : Nat) (Jret : Kt R T1) (x : (BA × U1)) (S : LL) : Option R :=
 smithyardref4_within.fn k ((x.1.size : Int),1,40,()) S Jret
def Q2 (k : Nat) : Pc PG R (su Tryz.f129 15) := mkCut T_ok (C k) _ c2 (.seq .auto (.mask mr .auto)) ⟨tr,tr⟩ (fun x S K => q2 k (kR K mr) x S)
def fn (k : Nat) (x : (BA × U1)) (S : LL) (K : Kt R T1) : Option R :=
 rounds (b0 k (fun o8 S => ifB (strEq o8.1 (bs [109,97,99,114,111])) (ifB (strEq o8.1 (bs [109,97,99,114,111])) (K (false,()) S) (q2 k K o8 S)) (ifB (strEq o8.1 (bs [102,111,114])) (ifB (strEq o8.1 (bs [102,111,114])) (K (false,()) S) (q2 k K o8 S)) (ifB (strEq o8.1 (bs [105,110])) (ifB (strEq o8.1 (bs [105,110])) (K (false,()) S) (q2 k K o8 S)) (ifB (strEq o8.1 (bs [105,102])) (ifB (strEq o8.1 (bs [105,102])) (K (false,()) S) (q2 k K o8 S)) (ifB (strEq o8.1 (bs [101,108,115,101])) (ifB (strEq o8.1 (bs [101,108,115,101])) (K (false,()) S) (q2 k K o8 S)) (ifB (strEq o8.1 (bs [117,115,101])) (ifB (strEq o8.1 (bs [117,115,101])) (K (false,()) S) (q2 k K o8 S)) (ifB (strEq o8.1 (bs [102,105,108,101,115])) (ifB (strEq o8.1 (bs [102,105,108,101,115])) (K (false,()) S) (q2 k K o8 S)) (ifB (strEq o8.1 (bs [99,104,111,111,115,101])) (K (false,()) S) (q2 k K o8 S))))))))) K) k (x.1,0,()) S
def en (k : Nat) : Ent PG R := mkFn T_ok Tryz.func129 ps rs (C k) (.seq .auto (.seq (.seq .auto (.block (.piece (L0 k).h))) (.seq (.seq .auto (.block (.seq (.seq .auto (.cond .auto (.seq .auto (.cond .auto (.seq .auto (.cond .auto (.seq .auto (.cond .auto (.seq .auto (.cond .auto (.seq .auto (.cond .auto (.seq .auto (.cond .auto .auto)))))))))))))) (.cond (.seq .auto (.mask mr .auto)) .auto)))) (.piece (Q2 k).h)))) ⟨tr,⟨tr,(L0 k).ok⟩,⟨tr,⟨tr,tr,tr,tr,tr,tr,tr,tr,tr,tr,tr,tr,tr,tr,tr⟩,⟨tr,tr⟩,tr⟩,(Q2 k).ok⟩ (fn k)
end G.smithyardref4_IsName
namespace G.smithyardref5_checkVars
abbrev ps : Mk := sL 2 []
abbrev rs : Mk := sI []
abbrev c0 : Mk := sL 2 (n2 (sI (nM 48 [])))
abbrev e0 : Mk := nM 52 []
abbrev mr : Mk := n2 (sI (nM 49 []))
abbrev T0 := LL × Int × U1
def C (k : Nat) : List (Ent PG R) := [smithyardref5_bytesIn.en k,smithyardref4_IsName.en k]
def q0 (k : Nat) (Jnrm : Kt R T0) (Jret : Kt R (Int × U1)) (x : T0) (S : LL) : Option R :=
 ifB (decide (x.2.1 > 0)) (idxL x.1 x.2.1 fun v9 => asStr (leaf v9 0) fun s10 => idxL x.1 (IntKind.wrap .i64 (x.2.1 - 1)) fun v11 => asStr (leaf v11 0) fun s12 => ifB (strLt s10 s12 || strEq s10 s12) (Jret ((8 : Int),()) S) (Jnrm x S)) (Jnrm x S)
def Q0 (k : Nat) : Pc PG R (su Tryz.f95 3659) := mkEnd T_ok (C k) _ c0 c0 (.seq (.drawn [] [0,1,2,3,4,5,6,7,8,9,10,11,12,13,14,15]) (.cond (.seq .auto (.mask mr .auto)) .auto)) ⟨(drawn_an (by kernel_rfl)),⟨tr,tr⟩,tr⟩ (fun x S K => q0 k (kN K c0) (kR K mr) x S)
def q1 (k : Nat) (Jnrm : Kt R T0)  (x : T0) (S : LL) : Option R :=
 Jnrm (x.1,(IntKind.wrap .i64 (x.2.1 + 1)),()) S
def Q1 (k : Nat) : Pc PG R (su Tryz.f95 459) := mkEnd T_ok (C k) _ c0 c0 (.auto) tr (fun x S K => q1 k (kN K c0) x S)
def b0 (k : Nat) (J0 : Kt R (U1)) (Jret : Kt R (Int × U1)) (rec : Kt R T0) (x : T0) (S : LL) : Option R :=
 ifB (decide (x.2.1 < (x.1.length : Int))) (idxL x.1 x.2.1 fun v1 => asStr (leaf v1 0) fun s2 => smithyardref4_IsName.fn k (s2,()) S fun r3 S => ifB (!r3.1) (Jret ((5 : Int),()) S) (idxL x.1 x.2.1 fun v4 => asStr (leaf v4 1) fun s5 => ifB (decide ((s5.size : Int) > 300)) (Jret ((3 : Int),()) S) (idxL x.1 x.2.1 fun v6 => asStr (leaf v6 1) fun s7 => smithyardref5_bytesIn.fn k (s7,32,126,()) S fun r8 S => ifB (!r8.1) (Jret ((3 : Int),()) S) (q0 k (fun o13 S => q1 k rec o13 S) Jret x S)))) (J0 (()) S)
def L0 (k : Nat) : Pc PG R (.loop (su Tryz.f95 75)) := mkLoop T_ok (C k) _ c0 k (.seq (.seq .auto (.cond .auto (.mask e0 .auto))) (.seq (.block (.seq (.seq .auto (.cond (.seq .auto (.mask mr .auto)) .auto)) (.seq (.seq .auto (.cond (.seq .auto (.mask mr .auto)) .auto)) (.piece (Q0 k).h)))) (.piece (Q1 k).h))) ⟨⟨tr,tr,tr⟩,⟨⟨tr,⟨tr,tr⟩,tr⟩,⟨tr,⟨tr,tr⟩,tr⟩,(Q0 k).ok⟩,(Q1 k).ok⟩ (fun K => b0 k (kX K 0 e0) (kR K mr))
def fn (k : Nat) (x : (LL × U1)) (S : LL) (K : Kt R (Int × U1)) : Option R :=
 ifB (decide ((x.1.length : Int) > 30)) (K (2,()) S) (rounds (b0 k (fun o16 S => K (0,()) S) K) k (x.1,0,()) S)
def en (k : Nat) : Ent PG R := mkFn T_ok Tryz.func95 ps rs (C k) (.seq .auto (.seq (.seq .auto (.cond (.seq .auto (.mask mr .auto)) .auto)) (.seq (.seq .auto (.block (.piece (L0 k).h))) (.seq .auto (.mask mr .auto))))) ⟨tr,⟨tr,⟨tr,tr⟩,tr⟩,⟨tr,(L0 k).ok⟩,tr,tr⟩ (fn k)
end G.smithyardref5_checkVars
namespace G.smithyardref1_Lies
abbrev ps : Mk := sS (sS [])
abbrev rs : Mk := sB []
abbrev mr : Mk := n4 (sB (n4 []))
def C (k : Nat) : List (Ent PG R) := [strings_HasPrefix.en k]
def fn (k : Nat) (x : (BA × BA × U1)) (S : LL) (K : Kt R (Bool × U1)) : Option R :=
 catStr x.2.1 (bs [47]) fun s1 => strings_HasPrefix.fn k (x.1,s1,()) S K
def en (k : Nat) : Ent PG R := mkFn T_ok Tryz.func61 ps rs (C k) (.seq .auto (.seq .auto (.mask mr .auto))) ⟨tr,tr,tr⟩ (fn k)
end G.smithyardref1_Lies
namespace G.smithyardref5_checkOutputs
abbrev ps : Mk := sL 1 []
abbrev rs : Mk := sI []
abbrev c0 : Mk := sL 1 (n2 (sI (nM 55 [])))
abbrev e0 : Mk := sL 1 (nM 58 [])
abbrev e2 : Mk := nM 59 []
abbrev e4 : Mk := sL 1 (n3 (sI (nM 54 [])))
abbrev m2 : Mk := sL 1 (n3 (sI (sI (nM 53 []))))
abbrev mr : Mk := n2 (sI (nM 56 []))
abbrev T2 := Int × U1
abbrev T1 := LL × Int × U1
abbrev T0 := LL × Int × Int × U1
def C (k : Nat) : List (Ent PG R) := [smithyardref1_IsPath.en k,smithyardref1_Lies.en k]
def b2 (k : Nat) (J4 : Kt R T1) (Jret : Kt R T2) (rec : Kt R T0) (x : T0) (S : LL) : Option R :=
 ifB (decide (x.2.2.1 < (x.1.length : Int))) (idxL x.1 x.2.1 fun v11 => asStr (leaf v11 0) fun s12 => idxL x.1 x.2.2.1 fun v13 => asStr (leaf v13 0) fun s14 => smithyardref1_Lies.fn k (s12,s14,()) S fun r15 S => ifB r15.1 (Jret ((12 : Int),()) S) (rec (x.1,x.2.1,(IntKind.wrap .i64 (x.2.2.1 + 1)),()) S)) (J4 (x.1,x.2.1,()) S)
def L2 (k : Nat) : Pc PG R (.loop (su Tryz.f96 18735)) := mkLoop T_ok (C k) _ m2 k (.seq (.seq .auto (.cond .auto (.mask e4 .auto))) (.seq (.block (.seq (.drawn [] [0,1,2,3,4,5,6,7,8]) (.cond (.seq .auto (.mask mr .auto)) .auto))) .auto)) ⟨⟨tr,tr,tr⟩,⟨(drawn_an (by kernel_rfl)),⟨tr,tr⟩,tr⟩,tr⟩ (fun K => b2 k (kX K 4 e4) (kR K mr))
def q0 (k : Nat) (Jnrm : Kt R T1)  (x : T1) (S : LL) : Option R :=
 Jnrm (x.1,(IntKind.wrap .i64 (x.2.1 + 1)),()) S
def Q0 (k : Nat) : Pc PG R (su Tryz.f96 919) := mkEnd T_ok (C k) _ c0 c0 (.auto) tr (fun x S K => q0 k (kN K c0) x S)
def b1 (k : Nat) (J2 : Kt R (U1)) (Jret : Kt R T2) (rec : Kt R T1) (x : T1) (S : LL) : Option R :=
 ifB (decide (x.2.1 < (x.1.length : Int))) (rounds (b2 k (fun o16 S => rec (o16.1,(IntKind.wrap .i64 (o16.2.1 + 1)),()) S) Jret) k (x.1,x.2.1,0,()) S) (J2 (()) S)
def L1 (k : Nat) : Pc PG R (.loop (su Tryz.f96 303)) := mkLoop T_ok (C k) _ e4 k (.seq (.seq .auto (.cond .auto (.mask e2 .auto))) (.seq (.block (.seq .auto (.block (.piece (L2 k).h)))) .auto)) ⟨⟨tr,tr,tr⟩,⟨tr,(L2 k).ok⟩,tr⟩ (fun K => b1 k (kX K 2 e2) (kR K mr))
def b0 (k : Nat) (J0 : Kt R (LL × U1)) (Jret : Kt R T2) (rec : Kt R T1) (x : T1) (S : LL) : Option R :=
 ifB (decide (x.2.1 < (x.1.length : Int))) (idxL x.1 x.2.1 fun v1 => asStr (leaf v1 0) fun s2 => smithyardref1_IsPath.fn k (s2,()) S fun r3 S => ifB (!r3.1) (Jret ((3 : Int),()) S) (ifB (decide (x.2.1 > 0)) (idxL x.1 x.2.1 fun v4 => asStr (leaf v4 0) fun s5 => idxL x.1 (IntKind.wrap .i64 (x.2.1 - 1)) fun v6 => asStr (leaf v6 0) fun s7 => ifB (strLt s5 s7 || strEq s5 s7) (Jret ((8 : Int),()) S) (q0 k rec x S)) (q0 k rec x S))) (J0 (x.1,()) S)
def L0 (k : Nat) : Pc PG R (.loop (su Tryz.f96 151)) := mkLoop T_ok (C k) _ c0 k (.seq (.seq .auto (.cond .auto (.mask e0 .auto))) (.seq (.block (.seq (.seq .auto (.cond (.seq .auto (.mask mr .auto)) .auto)) (.seq (.drawn [] [0,1,2,3,4,5,6,7,8,9,10,11,12,13]) (.cond (.seq .auto (.mask mr .auto)) .auto)))) (.piece (Q0 k).h))) ⟨⟨tr,tr,tr⟩,⟨⟨tr,⟨tr,tr⟩,tr⟩,(drawn_an (by kernel_rfl)),⟨tr,tr⟩,tr⟩,(Q0 k).ok⟩ (fun K => b0 k (kX K 0 e0) (kR K mr))
def fn (k : Nat) (x : (LL × U1)) (S : LL) (K : Kt R T2) : Option R :=
 ifB ((x.1.length : Int) == 0) (K (9,()) S) (ifB (decide ((x.1.length : Int) > 100)) (K (2,()) S) (rounds (b0 k (fun o10 S => rounds (b1 k (fun o18 S => K (0,()) S) K) k (o10.1,0,()) S) K) k (x.1,0,()) S))
def en (k : Nat) : Ent PG R := mkFn T_ok Tryz.func96 ps rs (C k) (.seq .auto (.seq (.seq .auto (.cond (.seq .auto (.mask mr .auto)) .auto)) (.seq (.seq .auto (.cond (.seq .auto (.mask mr .auto)) .auto)) (.seq (.seq .auto (.block (.piece (L0 k).h))) (.seq (.seq .auto (.block (.piece (L1 k).h))) (.seq .auto (.mask mr .auto))))))) ⟨tr,⟨tr,⟨tr,tr⟩,tr⟩,⟨tr,⟨tr,tr⟩,tr⟩,⟨tr,(L0 k).ok⟩,⟨tr,(L1 k).ok⟩,tr,tr⟩ (fn k)
end G.smithyardref5_checkOutputs
namespace G.smithyardref5_CheckAction
abbrev ps : Mk := sA [.str,.sl 1,.sl 2,.sl 1,.sl 2,jI] []
abbrev rs : Mk := sI []
abbrev e0 : Mk := n1 (sX [.str,.sl 1,.sl 2,.sl 1,.sl 2,jI] (nM 56 []))
abbrev m0 : Mk := n1 (sX [.str,.sl 1,.sl 2,.sl 1,.sl 2,jI] (n1 (sI (nM 54 []))))
abbrev mr : Mk := n2 (sI (nM 55 []))
abbrev T1 := (BA × LL × LL × LL × LL × Int × U1) × U1
abbrev T0 := (BA × LL × LL × LL × LL × Int × U1) × Int × U1
def C (k : Nat) : List (Ent PG R) := [smithyardref1_IsDigest.en k,smithyardref5_checkCommand.en k,smithyardref5_checkVars.en k,smithyardref5_checkOutputs.en k,smithyardref5_within.en k]
def b0 (k : Nat) (J0 : Kt R T1) (Jret : Kt R (Int × U1)) (rec : Kt R T0) (x : T0) (S : LL) : Option R :=
 ifB (decide (x.2.1 < (x.1.2.1.length : Int))) (idxL x.1.2.1 x.2.1 fun v2 => asSl 1 (leaf v2 0) fun l3 => smithyardref5_checkCommand.fn k (l3,()) S fun r4 S => ifB (r4.1 != 0) (Jret r4 S) (rec (x.1,(IntKind.wrap .i64 (x.2.1 + 1)),()) S)) (J0 (x.1,()) S)
def L0 (k : Nat) : Pc PG R (.loop (su Tryz.f60 303)) := mkLoop T_ok (C k) _ m0 k (.seq (.seq .auto (.cond .auto (.mask e0 .auto))) (.seq (.block (.seq .auto (.seq .auto (.cond (.seq .auto (.mask mr .auto)) .auto)))) .auto)) ⟨⟨tr,tr,tr⟩,⟨tr,tr,⟨tr,tr⟩,tr⟩,tr⟩ (fun K => b0 k (kX K 0 e0) (kR K mr))
def fn (k : Nat) (x : T1) (S : LL) (K : Kt R (Int × U1)) : Option R :=
 smithyardref1_IsDigest.fn k (x.1.1,()) S fun r1 S => ifB (!r1.1) (K (3,()) S) (ifB ((x.1.2.1.length : Int) == 0) (K (9,()) S) (ifB (decide ((x.1.2.1.length : Int) > 50)) (K (2,()) S) (rounds (b0 k (fun o5 S => smithyardref5_checkVars.fn k (o5.1.2.2.1,()) S fun r6 S => ifB (r6.1 != 0) (K r6 S) (smithyardref5_checkOutputs.fn k (o5.1.2.2.2.1,()) S fun r7 S => ifB (r7.1 != 0) (K r7 S) (smithyardref5_checkVars.fn k (o5.1.2.2.2.2.1,()) S fun r8 S => ifB (r8.1 != 0) (K r8 S) (smithyardref5_within.fn k (o5.1.2.2.2.2.2.1,1,100000,()) S fun r9 S => ifB (!r9.1) (K (1,()) S) (K (0,()) S))))) K) k (x.1,0,()) S)))
def en (k : Nat) : Ent PG R := mkFn T_ok Tryz.func60 ps rs (C k) (.seq .auto (.seq (.seq .auto (.cond (.seq .auto (.mask mr .auto)) .auto)) (.seq (.seq .auto (.cond (.seq .auto (.mask mr .auto)) .auto)) (.seq (.seq .auto (.cond (.seq .auto (.mask mr .auto)) .auto)) (.seq (.seq .auto (.block (.piece (L0 k).h))) (.seq (.seq .auto (.seq .auto (.cond (.seq .auto (.mask mr .auto)) .auto))) (.seq (.seq .auto (.seq .auto (.cond (.seq .auto (.mask mr .auto)) .auto))) (.seq (.seq .auto (.seq .auto (.cond (.seq .auto (.mask mr .auto)) .auto))) (.seq (.seq .auto (.cond (.seq .auto (.mask mr .auto)) .auto)) (.seq .auto (.mask mr .auto))))))))))) ⟨tr,⟨tr,⟨tr,tr⟩,tr⟩,⟨tr,⟨tr,tr⟩,tr⟩,⟨tr,⟨tr,tr⟩,tr⟩,⟨tr,(L0 k).ok⟩,⟨tr,tr,⟨tr,tr⟩,tr⟩,⟨tr,tr,⟨tr,tr⟩,tr⟩,⟨tr,tr,⟨tr,tr⟩,tr⟩,⟨tr,⟨tr,tr⟩,tr⟩,tr,tr⟩ (fn k)
end G.smithyardref5_CheckAction
namespace G.smithyardref6_checkRule
abbrev ps : Mk := sA [.str,.str,.sl 1,.sl 2,.sl 1,.sl 2,jI,.sl 1] []
abbrev rs : Mk := sI []
abbrev c0 : Mk := n1 (sX [.str,.str,.sl 1,.sl 2,.sl 1,.sl 2,jI,.sl 1] (n2 (sI (nM 44 []))))
abbrev e0 : Mk := nM 49 []
abbrev mr : Mk := n2 (sI (nM 46 []))
abbrev T0 := (BA × BA × LL × LL × LL × LL × Int × LL × U1) × Int × U1
def C (k : Nat) : List (Ent PG R) := [smithyardref1_IsPath.en k,smithyardref5_CheckAction.en k]
def q0 (k : Nat) (Jnrm : Kt R T0)  (x : T0) (S : LL) : Option R :=
 Jnrm (x.1,(IntKind.wrap .i64 (x.2.1 + 1)),()) S
def Q0 (k : Nat) : Pc PG R (su Tryz.f30 1839) := mkEnd T_ok (C k) _ c0 c0 (.auto) tr (fun x S K => q0 k (kN K c0) x S)
def b0 (k : Nat) (J0 : Kt R (U1)) (Jret : Kt R (Int × U1)) (rec : Kt R T0) (x : T0) (S : LL) : Option R :=
 ifB (decide (x.2.1 < (x.1.2.2.2.2.2.2.2.1.length : Int))) (idxL x.1.2.2.2.2.2.2.2.1 x.2.1 fun v3 => asStr (leaf v3 0) fun s4 => smithyardref1_IsPath.fn k (s4,()) S fun r5 S => ifB (!r5.1) (Jret ((3 : Int),()) S) (ifB (decide (x.2.1 > 0)) (idxL x.1.2.2.2.2.2.2.2.1 x.2.1 fun v6 => asStr (leaf v6 0) fun s7 => idxL x.1.2.2.2.2.2.2.2.1 (IntKind.wrap .i64 (x.2.1 - 1)) fun v8 => asStr (leaf v8 0) fun s9 => ifB (strLt s7 s9 || strEq s7 s9) (Jret ((8 : Int),()) S) (q0 k rec x S)) (q0 k rec x S))) (J0 (()) S)
def L0 (k : Nat) : Pc PG R (.loop (su Tryz.f30 303)) := mkLoop T_ok (C k) _ c0 k (.seq (.seq .auto (.cond .auto (.mask e0 .auto))) (.seq (.block (.seq (.seq .auto (.cond (.seq .auto (.mask mr .auto)) .auto)) (.seq (.drawn [] [0,1,2,3,4,5,6,7,8,9,10,11,12,13,14,15]) (.cond (.seq .auto (.mask mr .auto)) .auto)))) (.piece (Q0 k).h))) ⟨⟨tr,tr,tr⟩,⟨⟨tr,⟨tr,tr⟩,tr⟩,(drawn_an (by kernel_rfl)),⟨tr,tr⟩,tr⟩,(Q0 k).ok⟩ (fun K => b0 k (kX K 0 e0) (kR K mr))
def fn (k : Nat) (x : ((BA × BA × LL × LL × LL × LL × Int × LL × U1) × U1)) (S : LL) (K : Kt R (Int × U1)) : Option R :=
 smithyardref1_IsPath.fn k (x.1.1,()) S fun r1 S => ifB (!r1.1) (K (3,()) S) (smithyardref5_CheckAction.fn k ((x.1.2.1,x.1.2.2.1,x.1.2.2.2.1,x.1.2.2.2.2.1,x.1.2.2.2.2.2.1,x.1.2.2.2.2.2.2.1,()),()) S fun r2 S => ifB (r2.1 != 0) (K r2 S) (ifB (decide ((x.1.2.2.2.2.2.2.2.1.length : Int) > 1000)) (K (2,()) S) (rounds (b0 k (fun o12 S => K (0,()) S) K) k (x.1,0,()) S)))
def en (k : Nat) : Ent PG R := mkFn T_ok Tryz.func30 ps rs (C k) (.seq .auto (.seq (.seq .auto (.cond (.seq .auto (.mask mr .auto)) .auto)) (.seq (.seq .auto (.seq .auto (.cond (.seq .auto (.mask mr .auto)) .auto))) (.seq (.seq .auto (.cond (.seq .auto (.mask mr .auto)) .auto)) (.seq (.seq .auto (.block (.piece (L0 k).h))) (.seq .auto (.mask mr .auto))))))) ⟨tr,⟨tr,⟨tr,tr⟩,tr⟩,⟨tr,tr,⟨tr,tr⟩,tr⟩,⟨tr,⟨tr,tr⟩,tr⟩,⟨tr,(L0 k).ok⟩,tr,tr⟩ (fn k)
end G.smithyardref6_checkRule
namespace G.smithyardref6_has
abbrev ps : Mk := sL 1 (sS [])
abbrev rs : Mk := sB []
abbrev e0 : Mk := nM 18 []
abbrev m0 : Mk := sL 1 (sS (n3 (sI (nM 12 []))))
abbrev mr : Mk := n4 (sB (nM 13 []))
def C (k : Nat) : List (Ent PG R) := []
def b0 (k : Nat) (J0 : Kt R (U1)) (Jret : Kt R (Bool × U1)) (rec : Kt R (LL × BA × Int × U1)) (x : (LL × BA × Int × U1)) (S : LL) : Option R :=
 ifB (decide (x.2.2.1 < (x.1.length : Int))) (idxL x.1 x.2.2.1 fun v1 => asStr (leaf v1 0) fun s2 => ifB (strEq s2 x.2.1) (Jret (true,()) S) (rec (x.1,x.2.1,(IntKind.wrap .i64 (x.2.2.1 + 1)),()) S)) (J0 (()) S)
def L0 (k : Nat) : Pc PG R (.loop (su Tryz.f42 37)) := mkLoop T_ok (C k) _ m0 k (.seq (.seq .auto (.cond .auto (.mask e0 .auto))) (.seq (.block (.seq .auto (.cond (.seq .auto (.mask mr .auto)) .auto))) .auto)) ⟨⟨tr,tr,tr⟩,⟨tr,⟨tr,tr⟩,tr⟩,tr⟩ (fun K => b0 k (kX K 0 e0) (kR K mr))
def fn (k : Nat) (x : (LL × BA × U1)) (S : LL) (K : Kt R (Bool × U1)) : Option R :=
 rounds (b0 k (fun o3 S => K (false,()) S) K) k (x.1,x.2.1,0,()) S
def en (k : Nat) : Ent PG R := mkFn T_ok Tryz.func42 ps rs (C k) (.seq .auto (.seq (.seq .auto (.block (.piece (L0 k).h))) (.seq .auto (.mask mr .auto)))) ⟨tr,⟨tr,(L0 k).ok⟩,tr,tr⟩ (fn k)
end G.smithyardref6_has
namespace G.smithyardref6_nested
abbrev ps : Mk := sS (sS [])
abbrev rs : Mk := sB []
abbrev mr : Mk := n4 (sB (n8 []))
def C (k : Nat) : List (Ent PG R) := [smithyardref1_Lies.en k]
def fn (k : Nat) (x : (BA × BA × U1)) (S : LL) (K : Kt R (Bool × U1)) : Option R :=
 smithyardref1_Lies.fn k x S fun r1 S => ifB r1.1 (K (true,()) S) (smithyardref1_Lies.fn k (x.2.1,x.1,()) S K)
def en (k : Nat) : Ent PG R := mkFn T_ok Tryz.func62 ps rs (C k) (.seq .auto (.seq .auto (.mask mr .auto))) ⟨tr,tr,tr⟩ (fn k)
end G.smithyardref6_nested
namespace G.smithyardref6_checkOutput
abbrev ps : Mk := sL 8 (sI (sS []))
abbrev rs : Mk := sI []
abbrev c0 : Mk := sL 8 (sI (sS (n5 (sI (sI (nM 67 []))))))
abbrev e0 : Mk := sL 8 (sI (sS (nM 74 [])))
abbrev e2 : Mk := nM 77 []
abbrev e4 : Mk := sL 8 (sI (sS (n5 (sI (nM 68 [])))))
abbrev m0 : Mk := sL 8 (sI (sS (n4 (sI (nM 69 [])))))
abbrev m3 : Mk := sL 8 (sI (sS (n5 (sI (n1 (sI (nM 66 [])))))))
abbrev mr : Mk := n6 (sI (nM 70 []))
abbrev T2 := Int × U1
abbrev T1 := LL × Int × BA × Int × U1
abbrev T0 := LL × Int × BA × Int × Int × U1
def C (k : Nat) : List (Ent PG R) := [smithyardref6_has.en k,smithyardref1_Lies.en k,smithyardref6_nested.en k]
def q0 (k : Nat) (Jnrm : Kt R T0)  (x : T0) (S : LL) : Option R :=
 Jnrm (x.1,x.2.1,x.2.2.1,x.2.2.2.1,(IntKind.wrap .i64 (x.2.2.2.2.1 + 1)),()) S
def Q0 (k : Nat) : Pc PG R (su Tryz.f31 58443) := mkEnd T_ok (C k) _ c0 c0 (.auto) tr (fun x S K => q0 k (kN K c0) x S)
def b2 (k : Nat) (J4 : Kt R T1) (Jret : Kt R T2) (rec : Kt R T0) (x : T0) (S : LL) : Option R :=
 idxL x.1 x.2.2.2.1 fun v5 => asSl 1 (leaf v5 4) fun l6 => ifB (decide (x.2.2.2.2.1 < (l6.length : Int))) (ifB (x.2.2.2.1 != x.2.1) (idxL x.1 x.2.2.2.1 fun v7 => asSl 1 (leaf v7 4) fun l8 => idxL l8 x.2.2.2.2.1 fun v9 => asStr (leaf v9 0) fun s10 => smithyardref1_Lies.fn k (x.2.2.1,s10,()) S fun r11 S => ifB r11.1 (Jret ((12 : Int),()) S) (q0 k rec x S)) (J4 (x.1,x.2.1,x.2.2.1,x.2.2.2.1,()) S)) (J4 (x.1,x.2.1,x.2.2.1,x.2.2.2.1,()) S)
def L2 (k : Nat) : Pc PG R (.loop (su Tryz.f31 9291)) := mkLoop T_ok (C k) _ c0 k (.seq (.seq .auto (.cond .auto (.mask e4 .auto))) (.seq (.block (.seq .auto (.cond (.seq .auto (.mask mr .auto)) .auto))) (.piece (Q0 k).h))) ⟨⟨tr,tr,tr⟩,⟨tr,⟨tr,tr⟩,tr⟩,(Q0 k).ok⟩ (fun K => b2 k (kX K 4 e4) (kR K mr))
def b3 (k : Nat) (J6 : Kt R T1) (Jret : Kt R T2) (rec : Kt R T0) (x : T0) (S : LL) : Option R :=
 idxL x.1 x.2.2.2.1 fun v14 => asSl 1 (leaf v14 7) fun l15 => ifB (decide (x.2.2.2.2.1 < (l15.length : Int))) (idxL x.1 x.2.2.2.1 fun v16 => asSl 1 (leaf v16 7) fun l17 => idxL l17 x.2.2.2.2.1 fun v18 => asStr (leaf v18 0) fun s19 => smithyardref6_nested.fn k (x.2.2.1,s19,()) S fun r20 S => ifB r20.1 (Jret ((12 : Int),()) S) (rec (x.1,x.2.1,x.2.2.1,x.2.2.2.1,(IntKind.wrap .i64 (x.2.2.2.2.1 + 1)),()) S)) (J6 (x.1,x.2.1,x.2.2.1,x.2.2.2.1,()) S)
def L3 (k : Nat) : Pc PG R (.loop (su Tryz.f31 9803)) := mkLoop T_ok (C k) _ m3 k (.seq (.seq .auto (.cond .auto (.mask e4 .auto))) (.seq (.block (.seq .auto (.cond (.seq .auto (.mask mr .auto)) .auto))) .auto)) ⟨⟨tr,tr,tr⟩,⟨tr,⟨tr,tr⟩,tr⟩,tr⟩ (fun K => b3 k (kX K 6 e4) (kR K mr))
def b1 (k : Nat) (J2 : Kt R (U1)) (Jret : Kt R T2) (rec : Kt R T1) (x : T1) (S : LL) : Option R :=
 ifB (decide (x.2.2.2.1 < (x.1.length : Int))) (rounds (b2 k (fun o13 S => rounds (b3 k (fun o21 S => rec (o21.1,o21.2.1,o21.2.2.1,(IntKind.wrap .i64 (o21.2.2.2.1 + 1)),()) S) Jret) k (o13.1,o13.2.1,o13.2.2.1,o13.2.2.2.1,0,()) S) Jret) k (x.1,x.2.1,x.2.2.1,x.2.2.2.1,0,()) S) (J2 (()) S)
def L1 (k : Nat) : Pc PG R (.loop (su Tryz.f31 75)) := mkLoop T_ok (C k) _ e4 k (.seq (.seq .auto (.cond .auto (.mask e2 .auto))) (.seq (.block (.seq (.seq .auto (.block (.piece (L2 k).h))) (.seq .auto (.block (.piece (L3 k).h))))) .auto)) ⟨⟨tr,tr,tr⟩,⟨⟨tr,(L2 k).ok⟩,tr,(L3 k).ok⟩,tr⟩ (fun K => b1 k (kX K 2 e2) (kR K mr))
def b0 (k : Nat) (J0 : Kt R (LL × Int × BA × U1)) (Jret : Kt R T2) (rec : Kt R T1) (x : T1) (S : LL) : Option R :=
 ifB (decide (x.2.2.2.1 < x.2.1)) (idxL x.1 x.2.2.2.1 fun v1 => asSl 1 (leaf v1 4) fun l2 => smithyardref6_has.fn k (l2,x.2.2.1,()) S fun r3 S => ifB r3.1 (Jret ((7 : Int),()) S) (rec (x.1,x.2.1,x.2.2.1,(IntKind.wrap .i64 (x.2.2.2.1 + 1)),()) S)) (J0 (x.1,x.2.1,x.2.2.1,()) S)
def L0 (k : Nat) : Pc PG R (.loop (su Tryz.f31 37)) := mkLoop T_ok (C k) _ m0 k (.seq (.seq .auto (.cond .auto (.mask e0 .auto))) (.seq (.block (.seq .auto (.cond (.seq .auto (.mask mr .auto)) .auto))) .auto)) ⟨⟨tr,tr,tr⟩,⟨tr,⟨tr,tr⟩,tr⟩,tr⟩ (fun K => b0 k (kX K 0 e0) (kR K mr))
def fn (k : Nat) (x : (LL × Int × BA × U1)) (S : LL) (K : Kt R T2) : Option R :=
 rounds (b0 k (fun o4 S => rounds (b1 k (fun o24 S => K (0,()) S) K) k (o4.1,o4.2.1,o4.2.2.1,0,()) S) K) k (x.1,x.2.1,x.2.2.1,0,()) S
def en (k : Nat) : Ent PG R := mkFn T_ok Tryz.func31 ps rs (C k) (.seq .auto (.seq (.seq .auto (.block (.piece (L0 k).h))) (.seq (.seq .auto (.block (.piece (L1 k).h))) (.seq .auto (.mask mr .auto))))) ⟨tr,⟨tr,(L0 k).ok⟩,⟨tr,(L1 k).ok⟩,tr,tr⟩ (fn k)
end G.smithyardref6_checkOutput
namespace G.smithyardref6_needs
abbrev ps : Mk := sL 8 []
abbrev rs : Mk := sL 1 []
abbrev c0 : Mk := sL 8 (n2 (sQ 1 (sI (sI (sB (sI (nM 56 [])))))))
abbrev c1 : Mk := sL 8 (n2 (sQ 1 (sI (sI (nM 58 [])))))
abbrev e0 : Mk := n3 (sQ 1 (nM 60 []))
abbrev e2 : Mk := sL 8 (n2 (sQ 1 (sI (nM 59 []))))
abbrev e4 : Mk := sL 8 (n2 (sQ 1 (sI (sI (sB (nM 57 []))))))
abbrev mr : Mk := n2 (sL 1 (nM 61 []))
abbrev T3 := LL × U1
abbrev T2 := LL × N3 × Int × U1
abbrev T1 := LL × N3 × Int × Int × U1
abbrev T0 := LL × N3 × Int × Int × Bool × Int × U1
def C (k : Nat) : List (Ent PG R) := [smithyardref6_has.en k]
def q0 (k : Nat) (Jnrm : Kt R T0)  (x : T0) (S : LL) : Option R :=
 Jnrm (x.1,x.2.1,x.2.2.1,x.2.2.2.1,x.2.2.2.2.1,(IntKind.wrap .i64 (x.2.2.2.2.2.1 + 1)),()) S
def Q0 (k : Nat) : Pc PG R (su Tryz.f29 7508555) := mkEnd T_ok (C k) _ c0 c0 (.auto) tr (fun x S K => q0 k (kN K c0) x S)
def b2 (k : Nat) (J4 : Kt R (LL × N3 × Int × Int × Bool × U1)) (rec : Kt R T0) (x : T0) (S : LL) : Option R :=
 idxL x.1 x.2.2.2.1 fun v3 => asSl 1 (leaf v3 4) fun l4 => ifB (decide (x.2.2.2.2.2.1 < (l4.length : Int))) (ifB x.2.2.2.2.1 (q0 k rec (x.1,x.2.1,x.2.2.1,x.2.2.2.1,true,x.2.2.2.2.2) S) (idxL x.1 x.2.2.1 fun v6 => asSl 1 (leaf v6 7) fun l7 => idxL x.1 x.2.2.2.1 fun v8 => asSl 1 (leaf v8 4) fun l9 => idxL l9 x.2.2.2.2.2.1 fun v10 => asStr (leaf v10 0) fun s11 => smithyardref6_has.fn k (l7,s11,()) S fun r12 S => q0 k rec (x.1,x.2.1,x.2.2.1,x.2.2.2.1,r12.1,x.2.2.2.2.2) S)) (J4 (x.1,x.2.1,x.2.2.1,x.2.2.2.1,x.2.2.2.2.1,()) S)
def L2 (k : Nat) : Pc PG R (.loop (su Tryz.f29 1217099)) := mkLoop T_ok (C k) _ c0 k (.seq (.seq .auto (.cond .auto (.mask e4 .auto))) (.seq (.block (.drawn [] [0,1,2,3,4,5,6,7,8,9,10,11,12,13,14,15,16,17,18])) (.piece (Q0 k).h))) ⟨⟨tr,tr,tr⟩,(drawn_an (by kernel_rfl)),(Q0 k).ok⟩ (fun K => b2 k (kX K 4 e4))
def q1 (k : Nat) (Jnrm : Kt R T1)  (x : T1) (S : LL) : Option R :=
 Jnrm (x.1,x.2.1,x.2.2.1,(IntKind.wrap .i64 (x.2.2.2.1 + 1)),()) S
def Q1 (k : Nat) : Pc PG R (su Tryz.f29 29259) := mkEnd T_ok (C k) _ c1 c1 (.auto) tr (fun x S K => q1 k (kN K c1) x S)
def b1 (k : Nat) (J2 : Kt R T2) (rec : Kt R T1) (x : T1) (S : LL) : Option R :=
 ifB (decide (x.2.2.2.1 < (x.1.length : Int))) (rounds (b2 k (fun o14 S => ifB o14.2.2.2.2.1 (idxN o14.2.1.2.2 o14.2.2.1 fun v15 => objAt S o14.2.1.1 fun ty c16 => asOwn 3 1 (c16.getD (o14.2.1.2.1 + v15 * 1) .any) fun l17 => setS (S.set o14.2.1.1 (ty (c16.set (o14.2.1.2.1 + v15 * 1) (.sl 1 l17)))) fun S => app 8 l17 [(.int .i64 o14.2.2.2.1)] fun l18 => idxN o14.2.1.2.2 o14.2.2.1 fun v19 => objAt S o14.2.1.1 fun ty c20 => stO c20 (o14.2.1.2.1 + v19 * 1) [(.own 3 1 l18)] fun c21 => setS (S.set o14.2.1.1 (ty c21)) fun S => q1 k rec (o14.1,o14.2.1,o14.2.2.1,o14.2.2.2.1,()) S) (q1 k rec (o14.1,o14.2.1,o14.2.2.1,o14.2.2.2.1,()) S))) k (x.1,x.2.1,x.2.2.1,x.2.2.2.1,false,0,()) S) (J2 (x.1,x.2.1,x.2.2.1,()) S)
def L1 (k : Nat) : Pc PG R (.loop (su Tryz.f29 4683)) := mkLoop T_ok (C k) _ c1 k (.seq (.seq .auto (.cond .auto (.mask e2 .auto))) (.seq (.block (.seq .auto (.seq (.seq .auto (.block (.piece (L2 k).h))) (.seq .auto (.cond (.own [(5,2),(10,2)]) .auto))))) (.piece (Q1 k).h))) ⟨⟨tr,tr,tr⟩,⟨tr,⟨tr,(L2 k).ok⟩,tr,tr,tr⟩,(Q1 k).ok⟩ (fun K => b1 k (kX K 2 e2))
def b0 (k : Nat) (J0 : Kt R (N3 × U1)) (rec : Kt R T2) (x : T2) (S : LL) : Option R :=
 ifB (decide (x.2.2.1 < (x.1.length : Int))) (rounds (b1 k (fun o24 S => rec (o24.1,o24.2.1,(IntKind.wrap .i64 (o24.2.2.1 + 1)),()) S)) k (x.1,x.2.1,x.2.2.1,0,()) S) (J0 (x.2.1,()) S)
def L0 (k : Nat) : Pc PG R (.loop (su Tryz.f29 75)) := mkLoop T_ok (C k) _ e2 k (.seq (.seq .auto (.cond .auto (.mask e0 .auto))) (.seq (.block (.seq .auto (.block (.piece (L1 k).h)))) .auto)) ⟨⟨tr,tr,tr⟩,⟨tr,(L1 k).ok⟩,tr⟩ (fun K => b0 k (kX K 0 e0))
def fn0 (k : Nat) (x : T3) (S : LL) (K : Kt R T3) : Option R :=
 ifB (decide ((x.1.length : Int) = (x.1.length : Int))) (mkN (x.1.length : Int) 24 fun m1 => newObj S (.obj 45 (zeros m1 [.nilsl])) fun i2 S => rounds (b0 k (fun o25 S => objAt S o25.1.1 fun ty c26 => ifB (Nat.beq o25.1.2.1 0 && Nat.beq (o25.1.2.2 * 1) c26.length && Nat.blt 0 1 && Nat.ble o25.1.2.2 9223372036854775807) (setS (S.set o25.1.1 .any) fun S => K ((chunks 1 o25.1.2.2 c26),()) S) none)) k (x.1,(i2,0,m1),0,()) S) none
def en0 (k : Nat) : Ent PG R := mkFn T_ok Tryz.func29 ps rs (C k) (.seq .auto (.seq .auto (.seq (.seq .auto (.block (.piece (L0 k).h))) (.seq (.own [(0,1)]) (.frz 2 (.mask mr .auto)))))) ⟨tr,tr,⟨tr,(L0 k).ok⟩,tr,tr⟩ (fn0 k)
def fn (k : Nat) (x : T3) (S : LL) (K : Kt R T3) : Option R := popK rs 6 S (fn0 k x S fun r S => some (resE rs r,S)) K
def en (k : Nat) : Ent PG R := mkPop (rs := rs) (en0 k).ok
end G.smithyardref6_needs
namespace G.smithyardref6_all
abbrev ps : Mk := sI []
abbrev rs : Mk := sL 1 []
abbrev e0 : Mk := n3 (sQ 1 (nM 12 []))
abbrev m0 : Mk := sI (n2 (sQ 1 (sI (nM 11 []))))
abbrev mr : Mk := n2 (sL 1 (nM 13 []))
abbrev T0 := Int × N3 × Int × U1
def C (k : Nat) : List (Ent PG R) := []
def b0 (k : Nat) (J0 : Kt R (N3 × U1)) (rec : Kt R T0) (x : T0) (S : LL) : Option R :=
 ifB (decide (x.2.2.1 < x.1)) (idxN x.2.1.2.2 x.2.2.1 fun v3 => objAt S x.2.1.1 fun ty c4 => stO c4 (x.2.1.2.1 + v3 * 1) [(.bool true)] fun c5 => setS (S.set x.2.1.1 (ty c5)) fun S => rec (x.1,x.2.1,(IntKind.wrap .i64 (x.2.2.1 + 1)),()) S) (J0 (x.2.1,()) S)
def L0 (k : Nat) : Pc PG R (.loop (su Tryz.f33 75)) := mkLoop T_ok (C k) _ m0 k (.seq (.seq .auto (.cond .auto (.mask e0 .auto))) (.seq (.block (.own [(3,1)])) .auto)) ⟨⟨tr,tr,tr⟩,tr,tr⟩ (fun K => b0 k (kX K 0 e0))
def fn0 (k : Nat) (x : (Int × U1)) (S : LL) (K : Kt R (LL × U1)) : Option R :=
 ifB (decide (x.1 = x.1)) (mkN x.1 1 fun m1 => newObj S (.obj 4 (zeros m1 [(.bool false)])) fun i2 S => rounds (b0 k (fun o6 S => objAt S o6.1.1 fun ty c7 => ifB (Nat.beq o6.1.2.1 0 && Nat.beq (o6.1.2.2 * 1) c7.length && Nat.blt 0 1 && Nat.ble o6.1.2.2 9223372036854775807) (setS (S.set o6.1.1 .any) fun S => K ((chunks 1 o6.1.2.2 c7),()) S) none)) k (x.1,(i2,0,m1),0,()) S) none
def en0 (k : Nat) : Ent PG R := mkFn T_ok Tryz.func33 ps rs (C k) (.seq .auto (.seq .auto (.seq (.seq .auto (.block (.piece (L0 k).h))) (.seq (.own [(0,1)]) (.frz 2 (.mask mr .auto)))))) ⟨tr,tr,⟨tr,(L0 k).ok⟩,tr,tr⟩ (fn0 k)
def fn (k : Nat) (x : (Int × U1)) (S : LL) (K : Kt R (LL × U1)) : Option R := popK rs 6 S (fn0 k x S fun r S => some (resE rs r,S)) K
def en (k : Nat) : Ent PG R := mkPop (rs := rs) (en0 k).ok
end G.smithyardref6_all
namespace G.smithyardref6_ready_osl
abbrev ps : Mk := sL 1 (sQ 1 [])
abbrev rs : Mk := sB []
abbrev e0 : Mk := nM 20 []
abbrev m0 : Mk := sL 1 (sQ 1 (n3 (sI (nM 14 []))))
abbrev mr : Mk := n4 (sB (nM 15 []))
def C (k : Nat) : List (Ent PG R) := []
def b0 (k : Nat) (J0 : Kt R (U1)) (Jret : Kt R (Bool × U1)) (rec : Kt R (LL × N3 × Int × U1)) (x : (LL × N3 × Int × U1)) (S : LL) : Option R :=
 ifB (decide (x.2.2.1 < (x.1.length : Int))) (idxL x.1 x.2.2.1 fun v1 => asInt .i64 (leaf v1 0) fun n2 => idxN x.2.1.2.2 n2 fun v3 => objAt S x.2.1.1 fun ty c4 => ldBool c4 (x.2.1.2.1 + v3 * 1) fun b5 => ifB (!b5) (Jret (false,()) S) (rec (x.1,x.2.1,(IntKind.wrap .i64 (x.2.2.1 + 1)),()) S)) (J0 (()) S)
def L0 (k : Nat) : Pc PG R (.loop (su Tryz.f63 37)) := mkLoop T_ok (C k) _ m0 k (.seq (.seq .auto (.cond .auto (.mask e0 .auto))) (.seq (.block (.seq (.own [(6,1)]) (.cond (.seq .auto (.mask mr .auto)) .auto))) .auto)) ⟨⟨tr,tr,tr⟩,⟨tr,⟨tr,tr⟩,tr⟩,tr⟩ (fun K => b0 k (kX K 0 e0) (kR K mr))
def fn (k : Nat) (x : (LL × N3 × U1)) (S : LL) (K : Kt R (Bool × U1)) : Option R :=
 rounds (b0 k (fun o6 S => K (true,()) S) K) k (x.1,x.2.1,0,()) S
def en (k : Nat) : Ent PG R := mkFn T_ok Tryz.func63 ps rs (C k) (.seq .auto (.seq (.seq .auto (.block (.piece (L0 k).h))) (.seq .auto (.mask mr .auto)))) ⟨tr,⟨tr,(L0 k).ok⟩,tr,tr⟩ (fn k)
end G.smithyardref6_ready_osl
namespace G.smithyardref6_ordered
abbrev ps : Mk := sL 1 (sL 1 [])
abbrev rs : Mk := sO 3 1 (sB [])
abbrev c0 : Mk := sL 1 (sL 1 (n4 (sQ 1 (sO 3 1 (sI (sB (sI (nM 43 []))))))))
abbrev c1 : Mk := sL 1 (sL 1 (n4 (sQ 1 (sO 3 1 (sI (sB (sI (nM 23 (sB (nM 19 []))))))))))
abbrev e2 : Mk := sL 1 (sL 1 (n4 (sQ 1 (sO 3 1 (sI (sB (nM 44 [])))))))
abbrev m0 : Mk := sL 1 (sL 1 (n4 (sQ 1 (sO 3 1 (nM 46 [])))))
abbrev mr : Mk := n4 (sO 3 1 (sB (nM 48 [])))
abbrev T2 := LL × Bool × U1
abbrev T1 := LL × LL × N3 × LL × U1
abbrev T0 := LL × LL × N3 × LL × Int × Bool × Int × U1
def C (k : Nat) : List (Ent PG R) := [smithyardref6_ready_osl.en k]
def q1 (k : Nat) (Jnrm : Kt R T0)  (x : (LL × LL × N3 × LL × Int × Bool × Int × Bool × U1)) (S : LL) : Option R :=
 ifB x.2.2.2.2.2.2.2.1 (idxL x.1 x.2.2.2.2.2.2.1 fun v8 => asSl 1 (leaf v8 0) fun l9 => smithyardref6_ready_osl.fn k (l9,x.2.2.1,()) S fun r10 S => ifB r10.1 (Jnrm (x.1,x.2.1,x.2.2.1,x.2.2.2.1,x.2.2.2.2.2.2.1,true,x.2.2.2.2.2.2.1,()) S) (Jnrm (x.1,x.2.1,x.2.2.1,x.2.2.2.1,x.2.2.2.2.1,true,x.2.2.2.2.2.2.1,()) S)) (Jnrm (x.1,x.2.1,x.2.2.1,x.2.2.2.1,x.2.2.2.2.1,x.2.2.2.2.2.1,x.2.2.2.2.2.2.1,()) S)
def Q1 (k : Nat) : Pc PG R (su Tryz.f32 103111) := mkEnd T_ok (C k) _ c1 c0 (.cond (.seq .auto (.seq .auto (.cond .auto .auto))) .auto) ⟨⟨tr,tr,tr,tr⟩,tr⟩ (fun x S K => q1 k (kN K c0) x S)
def q0 (k : Nat) (Jnrm : Kt R T0)  (x : T0) (S : LL) : Option R :=
 Jnrm (x.1,x.2.1,x.2.2.1,x.2.2.2.1,x.2.2.2.2.1,x.2.2.2.2.2.1,(IntKind.wrap .i64 (x.2.2.2.2.2.2.1 + 1)),()) S
def Q0 (k : Nat) : Pc PG R (su Tryz.f32 29383) := mkEnd T_ok (C k) _ c0 c0 (.auto) tr (fun x S K => q0 k (kN K c0) x S)
def b1 (k : Nat) (J2 : Kt R (LL × LL × N3 × LL × Int × Bool × U1)) (rec : Kt R T0) (x : T0) (S : LL) : Option R :=
 ifB (decide (x.2.2.2.2.2.2.1 < (x.1.length : Int))) (ifB (decide (x.2.2.2.2.1 < 0)) (idxL x.2.1 x.2.2.2.2.2.2.1 fun v3 => asBool (leaf v3 0) fun b4 => ifB b4 (idxN x.2.2.1.2.2 x.2.2.2.2.2.2.1 fun v5 => objAt S x.2.2.1.1 fun ty c6 => ldBool c6 (x.2.2.1.2.1 + v5 * 1) fun b7 => q1 k (fun o11 S => q0 k rec o11 S) (x.1,x.2.1,x.2.2.1,x.2.2.2.1,x.2.2.2.2.1,x.2.2.2.2.2.1,x.2.2.2.2.2.2.1,(!b7),()) S) (q1 k (fun o13 S => q0 k rec o13 S) (x.1,x.2.1,x.2.2.1,x.2.2.2.1,x.2.2.2.2.1,x.2.2.2.2.2.1,x.2.2.2.2.2.2.1,false,()) S)) (J2 (x.1,x.2.1,x.2.2.1,x.2.2.2.1,x.2.2.2.2.1,x.2.2.2.2.2.1,()) S)) (J2 (x.1,x.2.1,x.2.2.1,x.2.2.2.1,x.2.2.2.2.1,x.2.2.2.2.2.1,()) S)
def L1 (k : Nat) : Pc PG R (.loop (su Tryz.f32 4807)) := mkLoop T_ok (C k) _ c0 k (.seq (.seq .auto (.cond .auto (.mask e2 .auto))) (.seq (.block (.seq (.own [(8,1)]) (.piece (Q1 k).h))) (.piece (Q0 k).h))) ⟨⟨tr,tr,tr⟩,⟨tr,(Q1 k).ok⟩,(Q0 k).ok⟩ (fun K => b1 k (kX K 2 e2))
def b0 (k : Nat) (Jret : Kt R T2) (rec : Kt R T1) (x : T1) (S : LL) : Option R :=
 rounds (b1 k (fun o15 S => ifB (decide (o15.2.2.2.2.1 < 0)) (Jret (o15.2.2.2.1,(!o15.2.2.2.2.2.1),()) S) (idxN o15.2.2.1.2.2 o15.2.2.2.2.1 fun v16 => objAt S o15.2.2.1.1 fun ty c17 => stO c17 (o15.2.2.1.2.1 + v16 * 1) [(.bool true)] fun c18 => setS (S.set o15.2.2.1.1 (ty c18)) fun S => app 8 o15.2.2.2.1 [(.int .i64 o15.2.2.2.2.1)] fun l19 => rec (o15.1,o15.2.1,o15.2.2.1,l19,()) S))) k (x.1,x.2.1,x.2.2.1,x.2.2.2.1,(-1 : Int),false,0,()) S
def L0 (k : Nat) : Pc PG R (.loop (su Tryz.f32 39)) := mkLoop T_ok (C k) _ m0 k (.block (.seq .auto (.seq .auto (.seq (.seq .auto (.block (.piece (L1 k).h))) (.seq (.seq .auto (.cond (.seq (.own [(0,1)]) (.mask mr .auto)) .auto)) (.seq (.own [(3,1)]) (.own [(0,1)]))))))) ⟨tr,tr,⟨tr,(L1 k).ok⟩,⟨tr,⟨tr,tr⟩,tr⟩,tr,tr⟩ (fun K => b0 k (kR K mr))
def fn0 (k : Nat) (x : (LL × LL × U1)) (S : LL) (K : Kt R T2) : Option R :=
 ifB (decide ((x.1.length : Int) = (x.1.length : Int))) (mkN (x.1.length : Int) 1 fun m1 => newObj S (.obj 4 (zeros m1 [(.bool false)])) fun i2 S => rounds (b0 k K) k (x.1,x.2.1,(i2,0,m1),[],()) S) none
def en0 (k : Nat) : Ent PG R := mkFn T_ok Tryz.func32 ps rs (C k) (.seq .auto (.seq .auto (.seq .auto (.block (.piece (L0 k).h))))) ⟨tr,tr,tr,(L0 k).ok⟩ (fn0 k)
def fn (k : Nat) (x : (LL × LL × U1)) (S : LL) (K : Kt R T2) : Option R := popK rs 6 S (fn0 k x S fun r S => some (resE rs r,S)) K
def en (k : Nat) : Ent PG R := mkPop (rs := rs) (en0 k).ok
end G.smithyardref6_ordered
namespace G.smithyardref6_CheckRules
abbrev ps : Mk := sL 8 []
abbrev rs : Mk := sI []
abbrev c0 : Mk := sL 8 (n2 (sI (nM 82 [])))
abbrev e0 : Mk := sL 8 (nM 85 [])
abbrev e4 : Mk := sL 8 (n4 (sI (nM 80 [])))
abbrev m2 : Mk := sL 8 (n4 (sI (sI (nM 79 []))))
abbrev mr : Mk := n2 (sI (nM 83 []))
abbrev T2 := Int × U1
abbrev T1 := LL × Int × U1
abbrev T0 := LL × Int × Int × U1
def C (k : Nat) : List (Ent PG R) := [smithyardref6_needs.en k,smithyardref6_checkRule.en k,smithyardref6_checkOutput.en k,smithyardref6_ordered.en k,smithyardref6_all.en k]
def b2 (k : Nat) (J4 : Kt R T1) (Jret : Kt R T2) (rec : Kt R T0) (x : T0) (S : LL) : Option R :=
 idxL x.1 x.2.1 fun v19 => asSl 1 (leaf v19 4) fun l20 => ifB (decide (x.2.2.1 < (l20.length : Int))) (idxL x.1 x.2.1 fun v21 => asSl 1 (leaf v21 4) fun l22 => idxL l22 x.2.2.1 fun v23 => asStr (leaf v23 0) fun s24 => smithyardref6_checkOutput.fn k (x.1,x.2.1,s24,()) S fun r25 S => ifB (r25.1 != 0) (Jret r25 S) (rec (x.1,x.2.1,(IntKind.wrap .i64 (x.2.2.1 + 1)),()) S)) (J4 (x.1,x.2.1,()) S)
def L2 (k : Nat) : Pc PG R (.loop (su Tryz.f14 9367)) := mkLoop T_ok (C k) _ m2 k (.seq (.seq .auto (.cond .auto (.mask e4 .auto))) (.seq (.block (.seq .auto (.seq .auto (.cond (.seq .auto (.mask mr .auto)) .auto)))) .auto)) ⟨⟨tr,tr,tr⟩,⟨tr,tr,⟨tr,tr⟩,tr⟩,tr⟩ (fun K => b2 k (kX K 4 e4) (kR K mr))
def q0 (k : Nat) (Jnrm : Kt R T1)  (x : T1) (S : LL) : Option R :=
 Jnrm (x.1,(IntKind.wrap .i64 (x.2.1 + 1)),()) S
def Q0 (k : Nat) : Pc PG R (su Tryz.f14 459) := mkEnd T_ok (C k) _ c0 c0 (.auto) tr (fun x S K => q0 k (kN K c0) x S)
def b1 (k : Nat) (J2 : Kt R (LL × U1)) (Jret : Kt R T2) (rec : Kt R T1) (x : T1) (S : LL) : Option R :=
 ifB (decide (x.2.1 < (x.1.length : Int))) (rounds (b2 k (fun o26 S => rec (o26.1,(IntKind.wrap .i64 (o26.2.1 + 1)),()) S) Jret) k (x.1,x.2.1,0,()) S) (J2 (x.1,()) S)
def L1 (k : Nat) : Pc PG R (.loop (su Tryz.f14 151)) := mkLoop T_ok (C k) _ e4 k (.seq (.seq .auto (.cond .auto (.mask e0 .auto))) (.seq (.block (.seq .auto (.block (.piece (L2 k).h)))) .auto)) ⟨⟨tr,tr,tr⟩,⟨tr,(L2 k).ok⟩,tr⟩ (fun K => b1 k (kX K 2 e0) (kR K mr))
def b0 (k : Nat) (J0 : Kt R (LL × U1)) (Jret : Kt R T2) (rec : Kt R T1) (x : T1) (S : LL) : Option R :=
 ifB (decide (x.2.1 < (x.1.length : Int))) (idxL x.1 x.2.1 fun v1 => mat 8 v1 fun c2 => asStr (c2.getD 0 .any) fun s3 => asStr (c2.getD 1 .any) fun s4 => asSl 1 (c2.getD 2 .any) fun l5 => asSl 2 (c2.getD 3 .any) fun l6 => asSl 1 (c2.getD 4 .any) fun l7 => asSl 2 (c2.getD 5 .any) fun l8 => asInt .i64 (c2.getD 6 .any) fun n9 => asSl 1 (c2.getD 7 .any) fun l10 => smithyardref6_checkRule.fn k ((s3,s4,l5,l6,l7,l8,n9,l10,()),()) S fun r11 S => ifB (r11.1 != 0) (Jret r11 S) (ifB (decide (x.2.1 > 0)) (idxL x.1 x.2.1 fun v12 => asStr (leaf v12 0) fun s13 => idxL x.1 (IntKind.wrap .i64 (x.2.1 - 1)) fun v14 => asStr (leaf v14 0) fun s15 => ifB (strLt s13 s15 || strEq s13 s15) (Jret ((8 : Int),()) S) (q0 k rec x S)) (q0 k rec x S))) (J0 (x.1,()) S)
def L0 (k : Nat) : Pc PG R (.loop (su Tryz.f14 75)) := mkLoop T_ok (C k) _ c0 k (.seq (.seq .auto (.cond .auto (.mask e0 .auto))) (.seq (.block (.seq (.seq .auto (.seq .auto (.cond (.seq .auto (.mask mr .auto)) .auto))) (.seq (.drawn [] [0,1,2,3,4,5,6,7,8,9,10,11,12,13,14,15]) (.cond (.seq .auto (.mask mr .auto)) .auto)))) (.piece (Q0 k).h))) ⟨⟨tr,tr,tr⟩,⟨⟨tr,tr,⟨tr,tr⟩,tr⟩,(drawn_an (by kernel_rfl)),⟨tr,tr⟩,tr⟩,(Q0 k).ok⟩ (fun K => b0 k (kX K 0 e0) (kR K mr))
def fn (k : Nat) (x : (LL × U1)) (S : LL) (K : Kt R T2) : Option R :=
 ifB (decide ((x.1.length : Int) > 500)) (K (2,()) S) (rounds (b0 k (fun o18 S => rounds (b1 k (fun o28 S => smithyardref6_needs.fn k o28 S fun r29 S => smithyardref6_all.fn k ((o28.1.length : Int),()) S fun r30 S => smithyardref6_ordered.fn k (r29.1,r30) S fun r31 S => ifB (!r31.2.1) (K (17,()) S) (K (0,()) S)) K) k (o18.1,0,()) S) K) k (x.1,0,()) S)
def en (k : Nat) : Ent PG R := mkFn T_ok Tryz.func14 ps rs (C k) (.seq .auto (.seq (.seq .auto (.cond (.seq .auto (.mask mr .auto)) .auto)) (.seq (.seq .auto (.block (.piece (L0 k).h))) (.seq (.seq .auto (.block (.piece (L1 k).h))) (.seq (.seq (.own [(6,1)]) (.seq .auto (.cond (.seq .auto (.mask mr .auto)) .auto))) (.seq .auto (.mask mr .auto))))))) ⟨tr,⟨tr,⟨tr,tr⟩,tr⟩,⟨tr,(L0 k).ok⟩,⟨tr,(L1 k).ok⟩,⟨tr,tr,⟨tr,tr⟩,tr⟩,tr,tr⟩ (fn k)
end G.smithyardref6_CheckRules
namespace G.smithyardref6_Suspects
abbrev ps : Mk := sL 8 (sL 1 [])
abbrev rs : Mk := sO 9 1 (sI [])
abbrev c0 : Mk := sL 8 (sL 1 (n6 (sL 1 (sO 3 1 (n1 (sQ 1 (sI (sI (sI (nM 122 []))))))))))
abbrev c1 : Mk := sL 8 (sL 1 (n6 (sL 1 (sO 3 1 (n1 (sQ 1 (sI (sI (n1 (sI (nM 121 [])))))))))))
abbrev c2 : Mk := sL 8 (nX (sQ 1 (n4 (sO 9 1 (sI (nM 119 []))))))
abbrev e0 : Mk := sL 8 (sL 1 (nM 135 []))
abbrev e2 : Mk := sL 8 (nX (sQ 1 (nM 125 [])))
abbrev e4 : Mk := sL 8 (sL 1 (n6 (sL 1 (sO 3 1 (n1 (sQ 1 (sI (sI (nM 123 [])))))))))
abbrev e6 : Mk := sL 8 (sL 1 (n6 (sL 1 (sO 3 1 (n1 (sQ 1 (sI (nM 124 []))))))))
abbrev e8 : Mk := nM 16 (sO 9 1 (nM 120 []))
abbrev m0 : Mk := sL 8 (sL 1 (n5 (sI (nM 129 []))))
abbrev mr : Mk := n4 (sO 9 1 (sI (nM 131 [])))
abbrev T4 := LL × LL × U1
abbrev T3 := LL × Int × U1
abbrev T2 := LL × N3 × LL × Int × U1
abbrev T1 := LL × LL × LL × LL × N3 × Int × U1
abbrev T0 := LL × LL × LL × LL × N3 × Int × Int × Int × U1
def C (k : Nat) : List (Ent PG R) := [smithyardref6_CheckRules.en k,smithyardref6_needs.en k,smithyardref6_ordered.en k,smithyardref6_all.en k,smithyardref1_IsPath.en k,smithyardref6_has.en k]
def q0 (k : Nat) (Jnrm : Kt R T0)  (x : T0) (S : LL) : Option R :=
 Jnrm (x.1,x.2.1,x.2.2.1,x.2.2.2.1,x.2.2.2.2.1,x.2.2.2.2.2.1,x.2.2.2.2.2.2.1,(IntKind.wrap .i64 (x.2.2.2.2.2.2.2.1 + 1)),()) S
def Q0 (k : Nat) : Pc PG R (su Tryz.f19 3754367) := mkEnd T_ok (C k) _ c0 c0 (.auto) tr (fun x S K => q0 k (kN K c0) x S)
def q1 (k : Nat) (Jnrm : Kt R T0)  (x : T0) (S : LL) : Option R :=
 Jnrm (x.1,x.2.1,x.2.2.1,x.2.2.2.1,x.2.2.2.2.1,x.2.2.2.2.2.1,x.2.2.2.2.2.2.1,(IntKind.wrap .i64 (x.2.2.2.2.2.2.2.1 + 1)),()) S
def Q1 (k : Nat) : Pc PG R (su Tryz.f19 3787135) := mkEnd T_ok (C k) _ c1 c1 (.auto) tr (fun x S K => q1 k (kN K c1) x S)
def b2 (k : Nat) (J4 : Kt R (LL × LL × LL × LL × N3 × Int × Int × U1)) (rec : Kt R T0) (x : T0) (S : LL) : Option R :=
 idxL x.1 x.2.2.2.2.2.2.1 fun v13 => asSl 1 (leaf v13 7) fun l14 => ifB (decide (x.2.2.2.2.2.2.2.1 < (l14.length : Int))) (idxN x.2.2.2.2.1.2.2 x.2.2.2.2.2.2.1 fun v15 => objAt S x.2.2.2.2.1.1 fun ty c16 => ldBool c16 (x.2.2.2.2.1.2.1 + v15 * 1) fun b17 => ifB b17 (idxN x.2.2.2.2.1.2.2 x.2.2.2.2.2.2.1 fun v18 => objAt S x.2.2.2.2.1.1 fun ty c19 => stO c19 (x.2.2.2.2.1.2.1 + v18 * 1) [(.bool true)] fun c20 => setS (S.set x.2.2.2.2.1.1 (ty c20)) fun S => q0 k rec x S) (idxL x.1 x.2.2.2.2.2.2.1 fun v22 => asSl 1 (leaf v22 7) fun l23 => idxL l23 x.2.2.2.2.2.2.2.1 fun v24 => asStr (leaf v24 0) fun s25 => smithyardref6_has.fn k (x.2.1,s25,()) S fun r26 S => idxN x.2.2.2.2.1.2.2 x.2.2.2.2.2.2.1 fun v27 => objAt S x.2.2.2.2.1.1 fun ty c28 => stO c28 (x.2.2.2.2.1.2.1 + v27 * 1) [(.bool r26.1)] fun c29 => setS (S.set x.2.2.2.2.1.1 (ty c29)) fun S => q0 k rec x S)) (J4 (x.1,x.2.1,x.2.2.1,x.2.2.2.1,x.2.2.2.2.1,x.2.2.2.2.2.1,x.2.2.2.2.2.2.1,()) S)
def L2 (k : Nat) : Pc PG R (.loop (su Tryz.f19 608639)) := mkLoop T_ok (C k) _ c0 k (.seq (.seq .auto (.cond .auto (.mask e4 .auto))) (.seq (.block (.own [(5,1),(19,1)])) (.piece (Q0 k).h))) ⟨⟨tr,tr,tr⟩,tr,(Q0 k).ok⟩ (fun K => b2 k (kX K 4 e4))
def b3 (k : Nat) (J6 : Kt R T1) (rec : Kt R T0) (x : T0) (S : LL) : Option R :=
 idxL x.2.2.1 x.2.2.2.2.2.2.1 fun v32 => asSl 1 (leaf v32 0) fun l33 => ifB (decide (x.2.2.2.2.2.2.2.1 < (l33.length : Int))) (idxN x.2.2.2.2.1.2.2 x.2.2.2.2.2.2.1 fun v34 => objAt S x.2.2.2.2.1.1 fun ty c35 => ldBool c35 (x.2.2.2.2.1.2.1 + v34 * 1) fun b36 => ifB b36 (idxN x.2.2.2.2.1.2.2 x.2.2.2.2.2.2.1 fun v37 => objAt S x.2.2.2.2.1.1 fun ty c38 => stO c38 (x.2.2.2.2.1.2.1 + v37 * 1) [(.bool true)] fun c39 => setS (S.set x.2.2.2.2.1.1 (ty c39)) fun S => q1 k rec x S) (idxL x.2.2.1 x.2.2.2.2.2.2.1 fun v41 => asSl 1 (leaf v41 0) fun l42 => idxL l42 x.2.2.2.2.2.2.2.1 fun v43 => asInt .i64 (leaf v43 0) fun n44 => idxN x.2.2.2.2.1.2.2 n44 fun v45 => objAt S x.2.2.2.2.1.1 fun ty c46 => ldBool c46 (x.2.2.2.2.1.2.1 + v45 * 1) fun b47 => idxN x.2.2.2.2.1.2.2 x.2.2.2.2.2.2.1 fun v48 => objAt S x.2.2.2.2.1.1 fun ty c49 => stO c49 (x.2.2.2.2.1.2.1 + v48 * 1) [(.bool b47)] fun c50 => setS (S.set x.2.2.2.2.1.1 (ty c50)) fun S => q1 k rec x S)) (J6 (x.1,x.2.1,x.2.2.1,x.2.2.2.1,x.2.2.2.2.1,x.2.2.2.2.2.1,()) S)
def L3 (k : Nat) : Pc PG R (.loop (su Tryz.f19 641407)) := mkLoop T_ok (C k) _ c1 k (.seq (.seq .auto (.cond .auto (.mask e6 .auto))) (.seq (.block (.own [(5,1),(16,1),(19,1)])) (.piece (Q1 k).h))) ⟨⟨tr,tr,tr⟩,tr,(Q1 k).ok⟩ (fun K => b3 k (kX K 6 e6))
def q2 (k : Nat) (Jnrm : Kt R T2)  (x : T2) (S : LL) : Option R :=
 Jnrm (x.1,x.2.1,x.2.2.1,(IntKind.wrap .i64 (x.2.2.2.1 + 1)),()) S
def Q2 (k : Nat) : Pc PG R (su Tryz.f19 58879) := mkEnd T_ok (C k) _ c2 c2 (.auto) tr (fun x S K => q2 k (kN K c2) x S)
def b4 (k : Nat) (J8 : Kt R (LL × U1)) (rec : Kt R T2) (x : T2) (S : LL) : Option R :=
 ifB (decide (x.2.2.2.1 < (x.1.length : Int))) (idxN x.2.1.2.2 x.2.2.2.1 fun v54 => objAt S x.2.1.1 fun ty c55 => ldBool c55 (x.2.1.2.1 + v54 * 1) fun b56 => ifB b56 (idxL x.1 x.2.2.2.1 fun v57 => asStr (leaf v57 0) fun s58 => app 16 x.2.2.1 [(.str s58)] fun l59 => q2 k rec (x.1,x.2.1,l59,x.2.2.2) S) (q2 k rec x S)) (J8 (x.2.2.1,()) S)
def L4 (k : Nat) : Pc PG R (.loop (su Tryz.f19 9727)) := mkLoop T_ok (C k) _ c2 k (.seq (.seq .auto (.cond .auto (.mask e8 .auto))) (.seq (.block (.seq (.own [(3,1)]) (.cond (.own [(0,1)]) .auto))) (.piece (Q2 k).h))) ⟨⟨tr,tr,tr⟩,⟨tr,tr,tr⟩,(Q2 k).ok⟩ (fun K => b4 k (kX K 8 e8))
def b1 (k : Nat) (J2 : Kt R (LL × N3 × U1)) (rec : Kt R T1) (x : T1) (S : LL) : Option R :=
 ifB (decide (x.2.2.2.2.2.1 < (x.2.2.2.1.length : Int))) (idxL x.2.2.2.1 x.2.2.2.2.2.1 fun v11 => asInt .i64 (leaf v11 0) fun n12 => rounds (b2 k (fun o31 S => rounds (b3 k (fun o52 S => rec (o52.1,o52.2.1,o52.2.2.1,o52.2.2.2.1,o52.2.2.2.2.1,(IntKind.wrap .i64 (o52.2.2.2.2.2.1 + 1)),()) S)) k (o31.1,o31.2.1,o31.2.2.1,o31.2.2.2.1,o31.2.2.2.2.1,o31.2.2.2.2.2.1,o31.2.2.2.2.2.2.1,0,()) S)) k (x.1,x.2.1,x.2.2.1,x.2.2.2.1,x.2.2.2.2.1,x.2.2.2.2.2.1,n12,0,()) S) (J2 (x.1,x.2.2.2.2.1,()) S)
def L1 (k : Nat) : Pc PG R (.loop (su Tryz.f19 2431)) := mkLoop T_ok (C k) _ e6 k (.seq (.seq .auto (.cond .auto (.mask e2 .auto))) (.seq (.block (.seq .auto (.seq (.seq .auto (.block (.piece (L2 k).h))) (.seq .auto (.block (.piece (L3 k).h)))))) .auto)) ⟨⟨tr,tr,tr⟩,⟨tr,⟨tr,(L2 k).ok⟩,tr,(L3 k).ok⟩,tr⟩ (fun K => b1 k (kX K 2 e2))
def b0 (k : Nat) (J0 : Kt R T4) (Jret : Kt R T3) (rec : Kt R (LL × LL × Int × U1)) (x : (LL × LL × Int × U1)) (S : LL) : Option R :=
 ifB (decide (x.2.2.1 < (x.2.1.length : Int))) (idxL x.2.1 x.2.2.1 fun v2 => asStr (leaf v2 0) fun s3 => smithyardref1_IsPath.fn k (s3,()) S fun r4 S => ifB (!r4.1) (Jret ([],3,()) S) (rec (x.1,x.2.1,(IntKind.wrap .i64 (x.2.2.1 + 1)),()) S)) (J0 (x.1,x.2.1,()) S)
def L0 (k : Nat) : Pc PG R (.loop (su Tryz.f19 151)) := mkLoop T_ok (C k) _ m0 k (.seq (.seq .auto (.cond .auto (.mask e0 .auto))) (.seq (.block (.seq .auto (.cond (.seq .auto (.mask mr .auto)) .auto))) .auto)) ⟨⟨tr,tr,tr⟩,⟨tr,⟨tr,tr⟩,tr⟩,tr⟩ (fun K => b0 k (kX K 0 e0) (kR K mr))
def fn0 (k : Nat) (x : T4) (S : LL) (K : Kt R T3) : Option R :=
 smithyardref6_CheckRules.fn k (x.1,()) S fun r1 S => ifB (r1.1 != 0) (K ([],r1) S) (ifB (decide ((x.2.1.length : Int) > 1000)) (K ([],2,()) S) (rounds (b0 k (fun o5 S => smithyardref6_needs.fn k (o5.1,()) S fun r6 S => smithyardref6_all.fn k ((o5.1.length : Int),()) S fun r7 S => smithyardref6_ordered.fn k (r6.1,r7) S fun r8 S => ifB (decide ((o5.1.length : Int) = (o5.1.length : Int))) (mkN (o5.1.length : Int) 1 fun m9 => newObj S (.obj 4 (zeros m9 [(.bool false)])) fun i10 S => rounds (b1 k (fun o53 S => rounds (b4 k (fun o62 S => K (o62.1,0,()) S)) k (o53.1,o53.2.1,[],0,()) S)) k (o5.1,o5.2.1,r6.1,r8.1,(i10,0,m9),0,()) S) none) K) k (x.1,x.2.1,0,()) S))
def en0 (k : Nat) : Ent PG R := mkFn T_ok Tryz.func19 ps rs (C k) (.seq .auto (.seq (.seq .auto (.seq .auto (.cond (.seq .auto (.mask mr .auto)) .auto))) (.seq (.seq .auto (.cond (.seq .auto (.mask mr .auto)) .auto)) (.seq (.seq .auto (.block (.piece (L0 k).h))) (.seq .auto (.seq (.own [(5,1)]) (.seq .auto (.seq (.seq .auto (.block (.piece (L1 k).h))) (.seq .auto (.seq (.seq .auto (.block (.piece (L4 k).h))) (.seq (.own [(0,1)]) (.mask mr .auto)))))))))))) ⟨tr,⟨tr,tr,⟨tr,tr⟩,tr⟩,⟨tr,⟨tr,tr⟩,tr⟩,⟨tr,(L0 k).ok⟩,tr,tr,tr,⟨tr,(L1 k).ok⟩,tr,⟨tr,(L4 k).ok⟩,tr,tr⟩ (fn0 k)
def fn (k : Nat) (x : T4) (S : LL) (K : Kt R T3) : Option R := popK rs 6 S (fn0 k x S fun r S => some (resE rs r,S)) K
def en (k : Nat) : Ent PG R := mkPop (rs := rs) (en0 k).ok
end G.smithyardref6_Suspects
namespace G.slices_Equal_s_string_string
abbrev ps : Mk := sL 1 (sL 1 [])
abbrev rs : Mk := sB []
abbrev e0 : Mk := nM 26 []
abbrev m0 : Mk := sL 1 (sL 1 (nX (sI (sI (nM 12 [])))))
abbrev mr : Mk := n4 (sB (nM 21 []))
abbrev T0 := LL × LL × Int × Int × U1
def C (k : Nat) : List (Ent PG R) := []
def b0 (k : Nat) (J0 : Kt R (U1)) (Jret : Kt R (Bool × U1)) (rec : Kt R T0) (x : T0) (S : LL) : Option R :=
 ifB (decide (x.2.2.2.1 < x.2.2.1)) (idxL x.1 x.2.2.2.1 fun v1 => asStr (leaf v1 0) fun s2 => idxL x.2.1 x.2.2.2.1 fun v3 => asStr (leaf v3 0) fun s4 => ifB (!(strEq s2 s4)) (Jret (false,()) S) (rec (x.1,x.2.1,x.2.2.1,(IntKind.wrap .i64 (x.2.2.2.1 + 1)),()) S)) (J0 (()) S)
def L0 (k : Nat) : Pc PG R (.loop (su Tryz.f20 75)) := mkLoop T_ok (C k) _ m0 k (.seq .auto (.seq (.cond .auto (.mask e0 .auto)) (.seq (.block (.seq .auto (.seq (.drawn [] [0,1,2,3,4,5,6,7,8]) (.cond (.seq .auto (.mask mr .auto)) .auto)))) .auto))) ⟨tr,⟨tr,tr⟩,⟨tr,(drawn_an (by kernel_rfl)),⟨tr,tr⟩,tr⟩,tr⟩ (fun K => b0 k (kX K 0 e0) (kR K mr))
def fn (k : Nat) (x : (LL × LL × U1)) (S : LL) (K : Kt R (Bool × U1)) : Option R :=
 ifB ((x.1.length : Int) != (x.2.1.length : Int)) (K (false,()) S) (rounds (b0 k (fun o5 S => K (true,()) S) K) k (x.1,x.2.1,(x.1.length : Int),0,()) S)
def en (k : Nat) : Ent PG R := mkFn T_ok Tryz.func20 ps rs (C k) (.seq .auto (.seq (.seq .auto (.cond (.seq .auto (.mask mr .auto)) .auto)) (.seq (.seq .auto (.block (.piece (L0 k).h))) (.seq .auto (.mask mr .auto))))) ⟨tr,⟨tr,⟨tr,tr⟩,tr⟩,⟨tr,(L0 k).ok⟩,tr,tr⟩ (fn k)
end G.slices_Equal_s_string_string
namespace G.smithyardref5_sameWords
abbrev ps : Mk := sL 1 (sL 1 [])
abbrev rs : Mk := sB []
abbrev e0 : Mk := nM 26 []
abbrev m0 : Mk := sL 1 (sL 1 (n3 (sI (nM 20 []))))
abbrev mr : Mk := n4 (sB (nM 21 []))
def C (k : Nat) : List (Ent PG R) := []
def b0 (k : Nat) (J0 : Kt R (U1)) (Jret : Kt R (Bool × U1)) (rec : Kt R (LL × LL × Int × U1)) (x : (LL × LL × Int × U1)) (S : LL) : Option R :=
 ifB (decide (x.2.2.1 < (x.1.length : Int))) (idxL x.1 x.2.2.1 fun v1 => asStr (leaf v1 0) fun s2 => idxL x.2.1 x.2.2.1 fun v3 => asStr (leaf v3 0) fun s4 => ifB (!(strEq s2 s4)) (Jret (false,()) S) (rec (x.1,x.2.1,(IntKind.wrap .i64 (x.2.2.1 + 1)),()) S)) (J0 (()) S)
def L0 (k : Nat) : Pc PG R (.loop (su Tryz.f64 75)) := mkLoop T_ok (C k) _ m0 k (.seq (.seq .auto (.cond .auto (.mask e0 .auto))) (.seq (.block (.seq (.drawn [] [0,1,2,3,4,5,6,7,8]) (.cond (.seq .auto (.mask mr .auto)) .auto))) .auto)) ⟨⟨tr,tr,tr⟩,⟨(drawn_an (by kernel_rfl)),⟨tr,tr⟩,tr⟩,tr⟩ (fun K => b0 k (kX K 0 e0) (kR K mr))
def fn (k : Nat) (x : (LL × LL × U1)) (S : LL) (K : Kt R (Bool × U1)) : Option R :=
 ifB ((x.1.length : Int) != (x.2.1.length : Int)) (K (false,()) S) (rounds (b0 k (fun o5 S => K (true,()) S) K) k (x.1,x.2.1,0,()) S)
def en (k : Nat) : Ent PG R := mkFn T_ok Tryz.func64 ps rs (C k) (.seq .auto (.seq (.seq .auto (.cond (.seq .auto (.mask mr .auto)) .auto)) (.seq (.seq .auto (.block (.piece (L0 k).h))) (.seq .auto (.mask mr .auto))))) ⟨tr,⟨tr,⟨tr,tr⟩,tr⟩,⟨tr,(L0 k).ok⟩,tr,tr⟩ (fn k)
end G.smithyardref5_sameWords
namespace G.smithyardref5_SameAction
abbrev ps : Mk := sA [.str,.sl 1,.sl 2,.sl 1,.sl 2,jI] (sA [.str,.sl 1,.sl 2,.sl 1,.sl 2,jI] [])
abbrev rs : Mk := sB []
abbrev c0 : Mk := n2 (sX [.str,.sl 1,.sl 2,.sl 1,.sl 2,jI] (sX [.str,.sl 1,.sl 2,.sl 1,.sl 2,jI] (nM 103 [])))
abbrev c1 : Mk := n2 (sX [.str,.sl 1,.sl 2,.sl 1,.sl 2,jI] (sX [.str,.sl 1,.sl 2,.sl 1,.sl 2,jI] (n1 (sI (nM 101 [])))))
abbrev m1 : Mk := n2 (sX [.str,.sl 1,.sl 2,.sl 1,.sl 2,jI] (sX [.str,.sl 1,.sl 2,.sl 1,.sl 2,jI] (n2 (sI (nM 100 [])))))
abbrev m2 : Mk := n2 (sX [.str,.sl 1,.sl 2,.sl 1,.sl 2,jI] (sX [.str,.sl 1,.sl 2,.sl 1,.sl 2,jI] (n3 (sI (nM 99 [])))))
abbrev mr : Mk := n4 (sB (nM 102 []))
abbrev T2 := Bool × U1
abbrev T1 := (BA × LL × LL × LL × LL × Int × U1) × (BA × LL × LL × LL × LL × Int × U1) × U1
abbrev T0 := (BA × LL × LL × LL × LL × Int × U1) × (BA × LL × LL × LL × LL × Int × U1) × Int × U1
def C (k : Nat) : List (Ent PG R) := [smithyardref5_sameWords.en k]
def b2 (k : Nat) (J4 : Kt R T1) (Jret : Kt R T2) (rec : Kt R T0) (x : T0) (S : LL) : Option R :=
 ifB (decide (x.2.2.1 < (x.1.2.2.2.2.1.length : Int))) (idxL x.1.2.2.2.2.1 x.2.2.1 fun v18 => mat 2 v18 fun c19 => asStr (c19.getD 0 .any) fun s20 => asStr (c19.getD 1 .any) fun s21 => idxL x.2.1.2.2.2.2.1 x.2.2.1 fun v22 => mat 2 v22 fun c23 => asStr (c23.getD 0 .any) fun s24 => asStr (c23.getD 1 .any) fun s25 => ifB (!((strEq s20 s24 && (strEq s21 s25 && true)) == true)) (Jret (false,()) S) (rec (x.1,x.2.1,(IntKind.wrap .i64 (x.2.2.1 + 1)),()) S)) (J4 (x.1,x.2.1,()) S)
def L2 (k : Nat) : Pc PG R (.loop (su Tryz.f34 303)) := mkLoop T_ok (C k) _ m2 k (.seq (.seq .auto (.cond .auto (.mask c0 .auto))) (.seq (.block (.seq (.drawn [] [0,1,2,3,4,5,6,7,8,9,10]) (.cond (.seq .auto (.mask mr .auto)) .auto))) .auto)) ⟨⟨tr,tr,tr⟩,⟨(drawn_an (by kernel_rfl)),⟨tr,tr⟩,tr⟩,tr⟩ (fun K => b2 k (kX K 4 c0) (kR K mr))
def b1 (k : Nat) (J2 : Kt R T1) (Jret : Kt R T2) (rec : Kt R T0) (x : T0) (S : LL) : Option R :=
 ifB (decide (x.2.2.1 < (x.1.2.2.1.length : Int))) (idxL x.1.2.2.1 x.2.2.1 fun v9 => mat 2 v9 fun c10 => asStr (c10.getD 0 .any) fun s11 => asStr (c10.getD 1 .any) fun s12 => idxL x.2.1.2.2.1 x.2.2.1 fun v13 => mat 2 v13 fun c14 => asStr (c14.getD 0 .any) fun s15 => asStr (c14.getD 1 .any) fun s16 => ifB (!((strEq s11 s15 && (strEq s12 s16 && true)) == true)) (Jret (false,()) S) (rec (x.1,x.2.1,(IntKind.wrap .i64 (x.2.2.1 + 1)),()) S)) (J2 (x.1,x.2.1,()) S)
def L1 (k : Nat) : Pc PG R (.loop (su Tryz.f34 151)) := mkLoop T_ok (C k) _ m1 k (.seq (.seq .auto (.cond .auto (.mask c0 .auto))) (.seq (.block (.seq (.drawn [] [0,1,2,3,4,5,6,7,8,9,10]) (.cond (.seq .auto (.mask mr .auto)) .auto))) .auto)) ⟨⟨tr,tr,tr⟩,⟨(drawn_an (by kernel_rfl)),⟨tr,tr⟩,tr⟩,tr⟩ (fun K => b1 k (kX K 2 c0) (kR K mr))
def b0 (k : Nat) (J0 : Kt R T1) (Jret : Kt R T2) (rec : Kt R T0) (x : T0) (S : LL) : Option R :=
 ifB (decide (x.2.2.1 < (x.1.2.1.length : Int))) (idxL x.1.2.1 x.2.2.1 fun v1 => asSl 1 (leaf v1 0) fun l2 => idxL x.2.1.2.1 x.2.2.1 fun v3 => asSl 1 (leaf v3 0) fun l4 => smithyardref5_sameWords.fn k (l2,l4,()) S fun r5 S => ifB (!r5.1) (Jret (false,()) S) (rec (x.1,x.2.1,(IntKind.wrap .i64 (x.2.2.1 + 1)),()) S)) (J0 (x.1,x.2.1,()) S)
def L0 (k : Nat) : Pc PG R (.loop (su Tryz.f34 75)) := mkLoop T_ok (C k) _ c1 k (.seq (.seq .auto (.cond .auto (.mask c0 .auto))) (.seq (.block (.seq (.drawn [] [0,1,2,3,4,5,6,7,8,9,10,11]) (.cond (.seq .auto (.mask mr .auto)) .auto))) .auto)) ⟨⟨tr,tr,tr⟩,⟨(drawn_an (by kernel_rfl)),⟨tr,tr⟩,tr⟩,tr⟩ (fun K => b0 k (kX K 0 c0) (kR K mr))
def q1 (k : Nat) (Jnrm : Kt R T1) (Jret : Kt R T2) (x : T0) (S : LL) : Option R :=
 rounds (b0 k Jnrm Jret) k x S
def Q1 (k : Nat) : Pc PG R (su Tryz.f34 27) := mkEnd T_ok (C k) _ c1 c0 (.block (.piece (L0 k).h)) (L0 k).ok (fun x S K => q1 k (kN K c0) (kR K mr) x S)
def q0 (k : Nat) (Jret : Kt R T2) (x : T1) (S : LL) : Option R :=
 q1 k (fun o8 S => rounds (b1 k (fun o17 S => rounds (b2 k (fun o26 S => ifB (strEq o26.1.1 o26.2.1.1) (ifB (o26.1.2.2.2.2.2.1 == o26.2.1.2.2.2.2.2.1) (smithyardref5_sameWords.fn k (o26.1.2.2.2.1,o26.2.1.2.2.2.1,()) S Jret) (Jret (false,()) S)) (Jret (false,()) S)) Jret) k (o17.1,o17.2.1,0,()) S) Jret) k (o8.1,o8.2.1,0,()) S) Jret (x.1,x.2.1,0,()) S
def Q0 (k : Nat) : Pc PG R (su Tryz.f34 7) := mkCut T_ok (C k) _ c0 (.seq (.seq .auto (.piece (Q1 k).h)) (.seq (.seq .auto (.block (.piece (L1 k).h))) (.seq (.seq .auto (.block (.piece (L2 k).h))) (.seq .auto (.mask mr .auto))))) ⟨⟨tr,(Q1 k).ok⟩,⟨tr,(L1 k).ok⟩,⟨tr,(L2 k).ok⟩,tr,tr⟩ (fun x S K => q0 k (kR K mr) x S)
def fn (k : Nat) (x : T1) (S : LL) (K : Kt R T2) : Option R :=
 ifB ((x.1.2.1.length : Int) != (x.2.1.2.1.length : Int)) (K (false,()) S) (ifB ((x.1.2.2.1.length : Int) != (x.2.1.2.2.1.length : Int)) (K (false,()) S) (ifB ((x.1.2.2.2.2.1.length : Int) != (x.2.1.2.2.2.2.1.length : Int)) (K (false,()) S) (q0 k K x S)))
def en (k : Nat) : Ent PG R := mkFn T_ok Tryz.func34 ps rs (C k) (.seq .auto (.seq (.seq .auto (.cond (.seq .auto (.mask mr .auto)) .auto)) (.piece (Q0 k).h))) ⟨tr,⟨tr,⟨tr,tr⟩,tr⟩,(Q0 k).ok⟩ (fn k)
end G.smithyardref5_SameAction
namespace G.smithyardref6_SameRules
abbrev ps : Mk := sL 8 (sL 8 [])
abbrev rs : Mk := sB []
abbrev c0 : Mk := sL 8 (sL 8 (n3 (sI (nM 50 []))))
abbrev e0 : Mk := nM 56 []
abbrev mr : Mk := n4 (sB (nM 51 []))
abbrev T0 := LL × LL × Int × U1
def C (k : Nat) : List (Ent PG R) := [slices_Equal_s_string_string.en k,smithyardref5_SameAction.en k]
def q0 (k : Nat) (Jnrm : Kt R T0)  (x : T0) (S : LL) : Option R :=
 Jnrm (x.1,x.2.1,(IntKind.wrap .i64 (x.2.2.1 + 1)),()) S
def Q0 (k : Nat) : Pc PG R (su Tryz.f16 459) := mkEnd T_ok (C k) _ c0 c0 (.auto) tr (fun x S K => q0 k (kN K c0) x S)
def b0 (k : Nat) (J0 : Kt R (U1)) (Jret : Kt R (Bool × U1)) (rec : Kt R T0) (x : T0) (S : LL) : Option R :=
 ifB (decide (x.2.2.1 < (x.1.length : Int))) (idxL x.1 x.2.2.1 fun v1 => asStr (leaf v1 0) fun s2 => idxL x.2.1 x.2.2.1 fun v3 => asStr (leaf v3 0) fun s4 => ifB (!(strEq s2 s4)) (Jret (false,()) S) (idxL x.1 x.2.2.1 fun v5 => mat 8 v5 fun c6 => asStr (c6.getD 1 .any) fun s7 => asSl 1 (c6.getD 2 .any) fun l8 => asSl 2 (c6.getD 3 .any) fun l9 => asSl 1 (c6.getD 4 .any) fun l10 => asSl 2 (c6.getD 5 .any) fun l11 => asInt .i64 (c6.getD 6 .any) fun n12 => idxL x.2.1 x.2.2.1 fun v13 => mat 8 v13 fun c14 => asStr (c14.getD 1 .any) fun s15 => asSl 1 (c14.getD 2 .any) fun l16 => asSl 2 (c14.getD 3 .any) fun l17 => asSl 1 (c14.getD 4 .any) fun l18 => asSl 2 (c14.getD 5 .any) fun l19 => asInt .i64 (c14.getD 6 .any) fun n20 => smithyardref5_SameAction.fn k ((s7,l8,l9,l10,l11,n12,()),(s15,l16,l17,l18,l19,n20,()),()) S fun r21 S => ifB (!r21.1) (Jret (false,()) S) (idxL x.1 x.2.2.1 fun v22 => asSl 1 (leaf v22 7) fun l23 => idxL x.2.1 x.2.2.1 fun v24 => asSl 1 (leaf v24 7) fun l25 => slices_Equal_s_string_string.fn k (l23,l25,()) S fun r26 S => ifB (!r26.1) (Jret (false,()) S) (q0 k rec x S)))) (J0 (()) S)
def L0 (k : Nat) : Pc PG R (.loop (su Tryz.f16 75)) := mkLoop T_ok (C k) _ c0 k (.seq (.seq .auto (.cond .auto (.mask e0 .auto))) (.seq (.block (.seq (.drawn [] [0,1,2,3,4,5,6,7,8,9,10,11,12,13,14,15,16,17,18,19,20,21,22,23,24,25,26,27,28,29,30,31,32,33,34,35,36,37,38]) (.cond (.seq .auto (.mask mr .auto)) .auto))) (.piece (Q0 k).h))) ⟨⟨tr,tr,tr⟩,⟨(drawn_an (by kernel_rfl)),⟨tr,tr⟩,tr⟩,(Q0 k).ok⟩ (fun K => b0 k (kX K 0 e0) (kR K mr))
def fn (k : Nat) (x : (LL × LL × U1)) (S : LL) (K : Kt R (Bool × U1)) : Option R :=
 ifB ((x.1.length : Int) != (x.2.1.length : Int)) (K (false,()) S) (rounds (b0 k (fun o28 S => K (true,()) S) K) k (x.1,x.2.1,0,()) S)
def en (k : Nat) : Ent PG R := mkFn T_ok Tryz.func16 ps rs (C k) (.seq .auto (.seq (.seq .auto (.cond (.seq .auto (.mask mr .auto)) .auto)) (.seq (.seq .auto (.block (.piece (L0 k).h))) (.seq .auto (.mask mr .auto))))) ⟨tr,⟨tr,⟨tr,tr⟩,tr⟩,⟨tr,(L0 k).ok⟩,tr,tr⟩ (fn k)
end G.smithyardref6_SameRules
namespace G.action_CheckLooks
abbrev ps : Mk := sL 3 []
abbrev rs : Mk := sI []
abbrev c0 : Mk := sL 3 (n2 (sI (sX [.str,.str,.bool] (n3 (sL 3 (sI (sI (n9 (sB (nM 31 []))))))))))
abbrev z0 : Mk := sL 3 (n7 (sL 3 (sI (sI (nM 41 [])))))
abbrev e0 : Mk := nM 52 []
abbrev mr : Mk := n2 (sI (nM 49 []))
abbrev T1 := LL × LL × Int × Int × U1
abbrev T0 := LL × Int × (BA × BA × Bool × U1) × LL × Int × Int × Bool × U1
def C (k : Nat) : List (Ent PG R) := [blob_IsPath.en k,blob_IsDigest.en k]
def q1 (k : Nat) (Jnrm : Kt R T0)  (x : T0) (S : LL) : Option R :=
 ifB x.2.2.2.2.2.2.1 (Jnrm x S) (ifB (strEq x.2.2.1.2.1 (bs [])) (Jnrm (x.1,x.2.1,x.2.2.1,x.2.2.2.1,x.2.2.2.2.1,x.2.2.2.2.2.1,x.2.2.1.2.2) S) (Jnrm (x.1,x.2.1,x.2.2.1,x.2.2.2.1,x.2.2.2.2.1,x.2.2.2.2.2.1,false,()) S))
def Q1 (k : Nat) : Pc PG R (su Tryz.f84 111819) := mkEnd T_ok (C k) _ c0 c0 (.cond .auto .auto) ⟨tr,tr⟩ (fun x S K => q1 k (kN K c0) x S)
def q0 (k : Nat) (Jnrm : Kt R T1) (Jret : Kt R (Int × U1)) (x : T0) (S : LL) : Option R :=
 ifB x.2.2.2.2.2.2.1 (Jret ((3 : Int),()) S) (ifB (decide (x.2.1 > 0)) (idxL x.1 (IntKind.wrap .i64 (x.2.1 - 1)) fun v9 => asStr (leaf v9 0) fun s10 => ifB (strLt x.2.2.1.1 s10 || strEq x.2.2.1.1 s10) (Jret ((8 : Int),()) S) (Jnrm (x.1,x.2.2.2.1,x.2.2.2.2.1,x.2.2.2.2.2.1,()) S)) (Jnrm (x.1,x.2.2.2.1,x.2.2.2.2.1,x.2.2.2.2.2.1,()) S))
def Q0 (k : Nat) : Pc PG R (su Tryz.f84 62667) := mkEnd T_ok (C k) _ c0 z0 (.cond (.seq .auto (.mask mr .auto)) (.seq (.drawn [] [0,1,2,3,4,5,6,7,8,9,10,11,12,13]) (.cond (.seq .auto (.mask mr .auto)) .auto))) ⟨⟨tr,tr⟩,(drawn_an (by kernel_rfl)),⟨tr,tr⟩,tr⟩ (fun x S K => q0 k (kN K z0) (kR K mr) x S)
def b0 (k : Nat) (J0 : Kt R (U1)) (Jret : Kt R (Int × U1)) (rec : Kt R T1) (x : T1) (S : LL) : Option R :=
 ifB (decide (x.2.2.2.1 < x.2.2.1)) (idxL x.2.1 x.2.2.2.1 fun v1 => mat 3 v1 fun c2 => asStr (c2.getD 0 .any) fun s3 => asStr (c2.getD 1 .any) fun s4 => asBool (c2.getD 2 .any) fun b5 => blob_IsPath.fn k (s3,()) S fun r6 S => ifB (!r6.1) (Jret ((3 : Int),()) S) (ifB (!(strEq s4 (bs []))) (blob_IsDigest.fn k (s4,()) S fun r7 S => q1 k (fun o8 S => q0 k (fun o11 S => rec (o11.1,o11.2.1,o11.2.2.1,(IntKind.wrap .i64 (o11.2.2.2.1 + 1)),()) S) Jret o8 S) (x.1,x.2.2.2.1,(s3,s4,b5,()),x.2.1,x.2.2.1,x.2.2.2.1,(!r7.1),()) S) (q1 k (fun o13 S => q0 k (fun o14 S => rec (o14.1,o14.2.1,o14.2.2.1,(IntKind.wrap .i64 (o14.2.2.2.1 + 1)),()) S) Jret o13 S) (x.1,x.2.2.2.1,(s3,s4,b5,()),x.2.1,x.2.2.1,x.2.2.2.1,false,()) S))) (J0 (()) S)
def L0 (k : Nat) : Pc PG R (.loop (su Tryz.f84 75)) := mkLoop T_ok (C k) _ z0 k (.seq .auto (.seq (.cond .auto (.mask e0 .auto)) (.seq (.block (.seq .auto (.block (.seq .auto (.cond (.seq .auto (.mask mr .auto)) (.seq (.seq .auto (.piece (Q1 k).h)) (.piece (Q0 k).h))))))) .auto))) ⟨tr,⟨tr,tr⟩,⟨tr,tr,⟨tr,tr⟩,⟨tr,(Q1 k).ok⟩,(Q0 k).ok⟩,tr⟩ (fun K => b0 k (kX K 0 e0) (kR K mr))
def fn (k : Nat) (x : (LL × U1)) (S : LL) (K : Kt R (Int × U1)) : Option R :=
 ifB (decide ((x.1.length : Int) > 4000)) (K (2,()) S) (rounds (b0 k (fun o16 S => K (0,()) S) K) k (x.1,x.1,(x.1.length : Int),0,()) S)
def en (k : Nat) : Ent PG R := mkFn T_ok Tryz.func84 ps rs (C k) (.seq .auto (.seq (.seq .auto (.cond (.seq .auto (.mask mr .auto)) .auto)) (.seq (.seq .auto (.block (.piece (L0 k).h))) (.seq .auto (.mask mr .auto))))) ⟨tr,⟨tr,⟨tr,tr⟩,tr⟩,⟨tr,(L0 k).ok⟩,tr,tr⟩ (fn k)
end G.action_CheckLooks
namespace G.action_CheckResult_1
abbrev ps : Mk := sh (.lf (.int .i32)) []
abbrev rs : Mk := sB []
abbrev mr : Mk := n2 (sB (nX []))
def C (k : Nat) : List (Ent PG R) := []
def fn (k : Nat) (x : (Int × U1)) (S : LL) (K : Kt R (Bool × U1)) : Option R :=
 ifB (x.1 != 10) (ifB (decide (x.1 < 32)) (K (true,()) S) (K ((decide (x.1 > 126)),()) S)) (K (false,()) S)
def en (k : Nat) : Ent PG R := mkFn T_ok Tryz.func111 ps rs (C k) (.seq .auto (.seq .auto (.mask mr .auto))) ⟨tr,tr,tr⟩ (fn k)
end G.action_CheckResult_1
def H.indexFunc_at_action_CheckResult_1.fn (k : Nat) (x : ByteArray × Unit × Bool × Unit) (S : List LV) (K : Int × Unit → List LV → Option R) : Option R := H.indexFunc.fn (G.action_CheckResult_1.en k).h 111 x S K
def H.indexFunc_at_action_CheckResult_1.h (k : Nat) : Hd R := hT (H.indexFunc.ps 111) fun x S K => H.indexFunc_at_action_CheckResult_1.fn k x S fun r S => K (resE H.indexFunc.rs r) S
theorem H.indexFunc_at_action_CheckResult_1.ok (k : Nat) : HSound Tryz.prog 201 (H.indexFunc_at_action_CheckResult_1.h (R := R) k) := H.indexFunc.ok (G.action_CheckResult_1.en k).ok (enters_ok Tryz.func111 (by kernel_rfl) (by kernel_rfl))
namespace G.strings_IndexFunc_at_action_CheckResult_1
abbrev ps : Mk := sS (sh (.fn 111 []) [])
abbrev rs : Mk := sI []
abbrev mr : Mk := n4 (sI (n3 []))
def C (k : Nat) : List (Ent PG R) := [⟨201,H.indexFunc_at_action_CheckResult_1.h k,H.indexFunc_at_action_CheckResult_1.ok k⟩]
def fn (k : Nat) (x : (BA × (U1) × U1)) (S : LL) (K : Kt R (Int × U1)) : Option R :=
 H.indexFunc_at_action_CheckResult_1.fn k (x.1,(()),true,()) S K
def en (k : Nat) : Ent PG R := mkFn T_ok Tryz.func168 ps rs (C k) (.seq .auto (.seq .auto (.mask mr .auto))) ⟨tr,tr,tr⟩ (fn k)
end G.strings_IndexFunc_at_action_CheckResult_1
namespace G.strings_ContainsFunc_at_action_CheckResult_1
abbrev ps : Mk := sS (sh (.fn 111 []) [])
abbrev rs : Mk := sB []
abbrev mr : Mk := n4 (sB (n4 []))
def C (k : Nat) : List (Ent PG R) := [strings_IndexFunc_at_action_CheckResult_1.en k]
def fn (k : Nat) (x : (BA × (U1) × U1)) (S : LL) (K : Kt R (Bool × U1)) : Option R :=
 strings_IndexFunc_at_action_CheckResult_1.fn k (x.1,(()),()) S fun r1 S => K ((decide (r1.1 ≥ 0)),()) S
def en (k : Nat) : Ent PG R := mkFn T_ok Tryz.func110 ps rs (C k) (.seq .auto (.seq .auto (.mask mr .auto))) ⟨tr,tr,tr⟩ (fn k)
end G.strings_ContainsFunc_at_action_CheckResult_1
namespace G.strings_HasSuffix
abbrev ps : Mk := sS (sS [])
abbrev rs : Mk := sB []
abbrev mr : Mk := n4 (sB (n3 []))
def C (k : Nat) : List (Ent PG R) := [internal_stringslite_HasSuffix.en k]
def fn (k : Nat) (x : (BA × BA × U1)) (S : LL) (K : Kt R (Bool × U1)) : Option R :=
 internal_stringslite_HasSuffix.fn k x S K
def en (k : Nat) : Ent PG R := mkFn T_ok Tryz.func112 ps rs (C k) (.seq .auto (.seq .auto (.mask mr .auto))) ⟨tr,tr,tr⟩ (fn k)
end G.strings_HasSuffix
namespace G.blob_clashes
abbrev ps : Mk := sh (.lf (.map)) (sS [])
abbrev rs : Mk := sB []
abbrev e0 : Mk := nM 23 []
abbrev m0 : Mk := sh (.lf (.map)) (sS (n5 (sI (sI (nM 14 [])))))
abbrev mr : Mk := n4 (sB (nM 18 []))
abbrev T0 := Nat × BA × Int × Int × U1
def C (k : Nat) : List (Ent PG R) := []
def b0 (k : Nat) (J0 : Kt R (U1)) (Jret : Kt R (Bool × U1)) (rec : Kt R T0) (x : T0) (S : LL) : Option R :=
 ifB (decide (x.2.2.2.1 < x.2.2.1)) (idxStr x.2.1 x.2.2.2.1 fun c1 => ifB (c1 == 47) (slStr x.2.1 (0 : Int) x.2.2.2.1 fun s2 => mpAt S x.1 .str fun m3 => asBool ((mapGet m3 (.str s2)).getD (.bool false)) fun b4 => ifB b4 (Jret (true,()) S) (rec (x.1,x.2.1,x.2.2.1,(IntKind.wrap .i64 (x.2.2.2.1 + 1)),()) S)) (rec (x.1,x.2.1,x.2.2.1,(IntKind.wrap .i64 (x.2.2.2.1 + 1)),()) S)) (J0 (()) S)
def L0 (k : Nat) : Pc PG R (.loop (su Tryz.f170 37)) := mkLoop T_ok (C k) _ m0 k (.seq .auto (.seq (.cond .auto (.mask e0 .auto)) (.seq (.block (.seq .auto (.seq .auto (.cond (.seq .auto (.mask mr .auto)) .auto)))) .auto))) ⟨tr,⟨tr,tr⟩,⟨tr,tr,⟨tr,tr⟩,tr⟩,tr⟩ (fun K => b0 k (kX K 0 e0) (kR K mr))
def fn (k : Nat) (x : (Nat × BA × U1)) (S : LL) (K : Kt R (Bool × U1)) : Option R :=
 rounds (b0 k (fun o5 S => K (false,()) S) K) k (x.1,x.2.1,(x.2.1.size : Int),0,()) S
def en (k : Nat) : Ent PG R := mkFn T_ok Tryz.func170 ps rs (C k) (.seq .auto (.seq (.seq .auto (.block (.piece (L0 k).h))) (.seq .auto (.mask mr .auto)))) ⟨tr,⟨tr,(L0 k).ok⟩,tr,tr⟩ (fn k)
end G.blob_clashes
namespace G.blob_CheckFiles
abbrev ps : Mk := sL 3 []
abbrev rs : Mk := sI []
abbrev c0 : Mk := sL 3 (n2 (sI (sh (.lf (.map)) (n1 (sX [.str,.bool,.sl 1] (n6 (sL 3 (sI (sI (nM 50 []))))))))))
abbrev z0 : Mk := sL 3 (n2 (sI (sh (.lf (.map)) (n8 (sL 3 (sI (sI (nM 50 []))))))))
abbrev e0 : Mk := sL 3 (n2 (sI (sh (.lf (.map)) (nM 61 []))))
abbrev e3 : Mk := n3 (sI (nM 62 []))
abbrev m1 : Mk := n3 (sI (sh (.lf (.map)) (nM 48 (sL 3 (sI (sI (nX [])))))))
abbrev mr : Mk := n2 (sI (nM 63 []))
abbrev T3 := Int × U1
abbrev T2 := Int × Nat × LL × Int × Int × U1
abbrev T1 := LL × Int × Nat × LL × Int × Int × U1
abbrev T0 := LL × Int × Nat × (BA × Bool × LL × U1) × LL × Int × Int × U1
def C (k : Nat) : List (Ent PG R) := [blob_IsPath.en k,blob_clashes.en k]
def q1 (k : Nat) (Jnrm : Kt R T1)  (x : T0) (S : LL) : Option R :=
 mpAt S x.2.2.1 .str fun m10 => setS (S.set x.2.2.1 (.mp .str (mapPut m10 (.str x.2.2.2.1.1) (.bool true)))) fun S => Jnrm (x.1,x.2.1,x.2.2.1,x.2.2.2.2) S
def Q1 (k : Nat) : Pc PG R (su Tryz.f113 62255) := mkEnd T_ok (C k) _ c0 z0 (.auto) tr (fun x S K => q1 k (kN K z0) x S)
def q0 (k : Nat) (Jnrm : Kt R T1)  (x : T0) (S : LL) : Option R :=
 q1 k Jnrm (x.1,(IntKind.wrap .i64 (x.2.1 + (x.2.2.2.1.2.2.1.length : Int))),x.2.2) S
def Q0 (k : Nat) : Pc PG R (su Tryz.f113 29487) := mkEnd T_ok (C k) _ c0 z0 (.seq .auto (.piece (Q1 k).h)) ⟨tr,(Q1 k).ok⟩ (fun x S K => q0 k (kN K z0) x S)
def b1 (k : Nat) (J3 : Kt R T3) (Jret : Kt R T3) (rec : Kt R T2) (x : T2) (S : LL) : Option R :=
 ifB (decide (x.2.2.2.2.1 < x.2.2.2.1)) (idxL x.2.2.1 x.2.2.2.2.1 fun v15 => mat 3 v15 fun c16 => asStr (c16.getD 0 .any) fun s17 => asBool (c16.getD 1 .any) fun b18 => asSl 1 (c16.getD 2 .any) fun l19 => blob_clashes.fn k (x.2.1,s17,()) S fun r20 S => ifB r20.1 (Jret ((12 : Int),()) S) (rec (x.1,x.2.1,x.2.2.1,x.2.2.2.1,(IntKind.wrap .i64 (x.2.2.2.2.1 + 1)),()) S)) (J3 (x.1,()) S)
def L1 (k : Nat) : Pc PG R (.loop (su Tryz.f113 607)) := mkLoop T_ok (C k) _ m1 k (.seq .auto (.seq (.cond .auto (.mask e3 .auto)) (.seq (.block (.seq .auto (.seq .auto (.cond (.seq .auto (.mask mr .auto)) .auto)))) .auto))) ⟨tr,⟨tr,tr⟩,⟨tr,tr,⟨tr,tr⟩,tr⟩,tr⟩ (fun K => b1 k (kX K 3 e3) (kR K mr))
def b0 (k : Nat) (J0 : Kt R (LL × Int × Nat × U1)) (Jret : Kt R T3) (rec : Kt R T1) (x : T1) (S : LL) : Option R :=
 ifB (decide (x.2.2.2.2.2.1 < x.2.2.2.2.1)) (idxL x.2.2.2.1 x.2.2.2.2.2.1 fun v2 => mat 3 v2 fun c3 => asStr (c3.getD 0 .any) fun s4 => asBool (c3.getD 1 .any) fun b5 => asSl 1 (c3.getD 2 .any) fun l6 => blob_IsPath.fn k (s4,()) S fun r7 S => ifB (!r7.1) (Jret ((3 : Int),()) S) (ifB (decide ((l6.length : Int) > 100000)) (Jret ((2 : Int),()) S) (ifB (decide (x.2.2.2.2.2.1 > 0)) (idxL x.1 (IntKind.wrap .i64 (x.2.2.2.2.2.1 - 1)) fun v8 => asStr (leaf v8 0) fun s9 => ifB (strLt s4 s9 || strEq s4 s9) (Jret ((8 : Int),()) S) (q0 k (fun o12 S => rec (o12.1,o12.2.1,o12.2.2.1,o12.2.2.2.1,o12.2.2.2.2.1,(IntKind.wrap .i64 (o12.2.2.2.2.2.1 + 1)),()) S) (x.1,x.2.1,x.2.2.1,(s4,b5,l6,()),x.2.2.2) S)) (q0 k (fun o13 S => rec (o13.1,o13.2.1,o13.2.2.1,o13.2.2.2.1,o13.2.2.2.2.1,(IntKind.wrap .i64 (o13.2.2.2.2.2.1 + 1)),()) S) (x.1,x.2.1,x.2.2.1,(s4,b5,l6,()),x.2.2.2) S)))) (J0 (x.1,x.2.1,x.2.2.1,()) S)
def L0 (k : Nat) : Pc PG R (.loop (su Tryz.f113 303)) := mkLoop T_ok (C k) _ z0 k (.seq .auto (.seq (.cond .auto (.mask e0 .auto)) (.seq (.block (.seq .auto (.seq (.block (.seq .auto (.cond (.seq .auto (.mask mr .auto)) (.seq .auto (.cond (.seq .auto (.mask mr .auto)) (.seq (.drawn [] [0,1,2,3,4,5,6,7,8,9,10,11,12,13]) (.cond (.seq .auto (.mask mr .auto)) .auto))))))) (.piece (Q0 k).h)))) .auto))) ⟨tr,⟨tr,tr⟩,⟨tr,⟨tr,⟨tr,tr⟩,tr,⟨tr,tr⟩,(drawn_an (by kernel_rfl)),⟨tr,tr⟩,tr⟩,(Q0 k).ok⟩,tr⟩ (fun K => b0 k (kX K 0 e0) (kR K mr))
def fn0 (k : Nat) (x : (LL × U1)) (S : LL) (K : Kt R T3) : Option R :=
 ifB (decide ((x.1.length : Int) > 1000)) (K (2,()) S) (newObj S (.mp .str []) fun i1 S => rounds (b0 k (fun o14 S => rounds (b1 k (fun o21 S => ifB (decide (o21.1 > 2000000)) (K (2,()) S) (K (0,()) S)) K) k (o14.2.1,o14.2.2.1,o14.1,(o14.1.length : Int),0,()) S) K) k (x.1,0,i1,x.1,(x.1.length : Int),0,()) S)
def en0 (k : Nat) : Ent PG R := mkFn T_ok Tryz.func113 ps rs (C k) (.seq .auto (.seq (.seq .auto (.cond (.seq .auto (.mask mr .auto)) .auto)) (.seq .auto (.seq .auto (.seq (.seq .auto (.block (.piece (L0 k).h))) (.seq (.seq .auto (.block (.piece (L1 k).h))) (.seq (.seq .auto (.cond (.seq .auto (.mask mr .auto)) .auto)) (.seq .auto (.mask mr .auto))))))))) ⟨tr,⟨tr,⟨tr,tr⟩,tr⟩,tr,tr,⟨tr,(L0 k).ok⟩,⟨tr,(L1 k).ok⟩,⟨tr,⟨tr,tr⟩,tr⟩,tr,tr⟩ (fn0 k)
def fn (k : Nat) (x : (LL × U1)) (S : LL) (K : Kt R T3) : Option R := popK rs 6 S (fn0 k x S fun r S => some (resE rs r,S)) K
def en (k : Nat) : Ent PG R := mkPop (rs := rs) (en0 k).ok
end G.blob_CheckFiles
namespace G.action_CheckResult
abbrev ps : Mk := sA [jI,.str,.sl 3,.sl 3,jI] []
abbrev rs : Mk := sI []
abbrev c0 : Mk := n1 (sX [jI,.str,.sl 3,.sl 3,jI] (n2 (sB (nM 56 []))))
abbrev c1 : Mk := n1 (sX [jI,.str,.sl 3,.sl 3,jI] (nM 59 []))
abbrev c3 : Mk := n1 (sX [jI,.str,.sl 3,.sl 3,jI] (n1 (sI (nM 57 []))))
abbrev mr : Mk := n2 (sI (nM 58 []))
abbrev T2 := Int × U1
abbrev T1 := Int × BA × LL × LL × Int × U1
abbrev T0 := T1 × U1
def C (k : Nat) : List (Ent PG R) := [action_CheckLooks.en k,strings_ContainsFunc_at_action_CheckResult_1.en k,strings_HasSuffix.en k,blob_CheckFiles.en k]
def q0 (k : Nat) (Jnrm : Kt R T0) (Jret : Kt R T2) (x : (T1 × Bool × U1)) (S : LL) : Option R :=
 ifB x.2.1 (Jret ((1 : Int),()) S) (ifB (decide ((x.1.2.1.size : Int) > 100000)) (Jret ((2 : Int),()) S) (strings_ContainsFunc_at_action_CheckResult_1.fn k (x.1.2.1,(()),()) S fun r1 S => ifB r1.1 (Jret ((3 : Int),()) S) (ifB (!(strEq x.1.2.1 (bs []))) (strings_HasSuffix.fn k (x.1.2.1,(bs [10]),()) S fun r2 S => ifB (!r2.1) (Jret ((3 : Int),()) S) (Jnrm (x.1,()) S)) (Jnrm (x.1,()) S))))
def Q0 (k : Nat) : Pc PG R (su Tryz.f85 25) := mkEnd T_ok (C k) _ c0 c1 (.cond (.seq .auto (.mask mr .auto)) (.seq .auto (.cond (.seq .auto (.mask mr .auto)) (.seq .auto (.cond (.seq .auto (.mask mr .auto)) .auto))))) ⟨⟨tr,tr⟩,tr,⟨tr,tr⟩,tr,⟨tr,tr⟩,tr⟩ (fun x S K => q0 k (kN K c1) (kR K mr) x S)
def q1 (k : Nat) (Jret : Kt R T2) (x : T0) (S : LL) : Option R :=
 action_CheckLooks.fn k (x.1.2.2.2.1,()) S Jret
def Q1 (k : Nat) : Pc PG R (su Tryz.f85 31) := mkCut T_ok (C k) _ c1 (.seq .auto (.mask mr .auto)) ⟨tr,tr⟩ (fun x S K => q1 k (kR K mr) x S)
def q3 (k : Nat) (Jnrm : Kt R T0) (Jret : Kt R T2) (x : (T1 × Int × U1)) (S : LL) : Option R :=
 ifB (x.2.1 != 0) (Jret x.2 S) (Jnrm (x.1,()) S)
def Q3 (k : Nat) : Pc PG R (su Tryz.f85 27) := mkEnd T_ok (C k) _ c3 c1 (.seq .auto (.cond (.seq .auto (.mask mr .auto)) .auto)) ⟨tr,⟨tr,tr⟩,tr⟩ (fun x S K => q3 k (kN K c1) (kR K mr) x S)
def q4 (k : Nat) (Jret : Kt R T2) (x : T0) (S : LL) : Option R :=
 ifB (decide ((x.1.2.2.1.length : Int) > 0)) (ifB (x.1.1 != 0) (Jret ((3 : Int),()) S) (q1 k Jret x S)) (q1 k Jret x S)
def Q4 (k : Nat) : Pc PG R (su Tryz.f85 15) := mkCut T_ok (C k) _ c1 (.seq (.seq .auto (.cond (.seq .auto (.mask mr .auto)) .auto)) (.piece (Q1 k).h)) ⟨⟨tr,⟨tr,tr⟩,tr⟩,(Q1 k).ok⟩ (fun x S K => q4 k (kR K mr) x S)
def q2 (k : Nat) (Jret : Kt R T2) (x : T0) (S : LL) : Option R :=
 blob_CheckFiles.fn k (x.1.2.2.1,()) S fun r4 S => q3 k (fun o5 S => q4 k Jret o5 S) Jret (x.1,r4) S
def Q2 (k : Nat) : Pc PG R (su Tryz.f85 7) := mkCut T_ok (C k) _ c1 (.seq (.seq .auto (.piece (Q3 k).h)) (.piece (Q4 k).h)) ⟨⟨tr,(Q3 k).ok⟩,(Q4 k).ok⟩ (fun x S K => q2 k (kR K mr) x S)
def fn (k : Nat) (x : T0) (S : LL) (K : Kt R T2) : Option R :=
 ifB (decide (x.1.1 < 0)) (q0 k (fun o3 S => q2 k K o3 S) K (x.1,true,()) S) (ifB (decide (x.1.1 > 999999)) (q0 k (fun o13 S => q2 k K o13 S) K (x.1,true,()) S) (ifB (decide (x.1.2.2.2.2.1 < 0)) (q0 k (fun o16 S => q2 k K o16 S) K (x.1,true,()) S) (q0 k (fun o19 S => q2 k K o19 S) K (x.1,(decide (x.1.2.2.2.2.1 > 50)),()) S)))
def en (k : Nat) : Ent PG R := mkFn T_ok Tryz.func85 ps rs (C k) (.seq .auto (.seq (.block (.seq .auto (.piece (Q0 k).h))) (.piece (Q2 k).h))) ⟨tr,⟨tr,(Q0 k).ok⟩,(Q2 k).ok⟩ (fn k)
end G.action_CheckResult
namespace G.slices_Equal_s_api_Look_api_Look
abbrev ps : Mk := sL 3 (sL 3 [])
abbrev rs : Mk := sB []
abbrev e0 : Mk := nM 26 []
abbrev m0 : Mk := sL 3 (sL 3 (nX (sI (sI (nM 12 [])))))
abbrev mr : Mk := n4 (sB (nM 21 []))
abbrev T0 := LL × LL × Int × Int × U1
def C (k : Nat) : List (Ent PG R) := []
def b0 (k : Nat) (J0 : Kt R (U1)) (Jret : Kt R (Bool × U1)) (rec : Kt R T0) (x : T0) (S : LL) : Option R :=
 ifB (decide (x.2.2.2.1 < x.2.2.1)) (idxL x.1 x.2.2.2.1 fun v1 => mat 3 v1 fun c2 => asStr (c2.getD 0 .any) fun s3 => asStr (c2.getD 1 .any) fun s4 => asBool (c2.getD 2 .any) fun b5 => idxL x.2.1 x.2.2.2.1 fun v6 => mat 3 v6 fun c7 => asStr (c7.getD 0 .any) fun s8 => asStr (c7.getD 1 .any) fun s9 => asBool (c7.getD 2 .any) fun b10 => ifB (!((strEq s3 s8 && (strEq s4 s9 && (b5 == b10 && true))) == true)) (Jret (false,()) S) (rec (x.1,x.2.1,x.2.2.1,(IntKind.wrap .i64 (x.2.2.2.1 + 1)),()) S)) (J0 (()) S)
def L0 (k : Nat) : Pc PG R (.loop (su Tryz.f86 75)) := mkLoop T_ok (C k) _ m0 k (.seq .auto (.seq (.cond .auto (.mask e0 .auto)) (.seq (.block (.seq .auto (.seq (.drawn [] [0,1,2,3,4,5,6,7,8]) (.cond (.seq .auto (.mask mr .auto)) .auto)))) .auto))) ⟨tr,⟨tr,tr⟩,⟨tr,(drawn_an (by kernel_rfl)),⟨tr,tr⟩,tr⟩,tr⟩ (fun K => b0 k (kX K 0 e0) (kR K mr))
def fn (k : Nat) (x : (LL × LL × U1)) (S : LL) (K : Kt R (Bool × U1)) : Option R :=
 ifB ((x.1.length : Int) != (x.2.1.length : Int)) (K (false,()) S) (rounds (b0 k (fun o11 S => K (true,()) S) K) k (x.1,x.2.1,(x.1.length : Int),0,()) S)
def en (k : Nat) : Ent PG R := mkFn T_ok Tryz.func86 ps rs (C k) (.seq .auto (.seq (.seq .auto (.cond (.seq .auto (.mask mr .auto)) .auto)) (.seq (.seq .auto (.block (.piece (L0 k).h))) (.seq .auto (.mask mr .auto))))) ⟨tr,⟨tr,⟨tr,tr⟩,tr⟩,⟨tr,(L0 k).ok⟩,tr,tr⟩ (fn k)
end G.slices_Equal_s_api_Look_api_Look
namespace G.steps_CheckMemory
abbrev ps : Mk := sL 8 []
abbrev rs : Mk := sI []
abbrev c0 : Mk := sL 8 (n2 (sI (sX [.str,.str,.sl 3,jI,.str,.sl 3,.sl 3,jI] (n1 (sI (n3 (sL 8 (sI (sI (nM 54 []))))))))))
abbrev c1 : Mk := sL 8 (n2 (sI (sX [.str,.str,.sl 3,jI,.str,.sl 3,.sl 3,jI] (n5 (sL 8 (sI (sI (nM 54 []))))))))
abbrev c2 : Mk := sL 8 (n2 (sI (sX [.str,.str,.sl 3,jI,.str,.sl 3,.sl 3,jI] (n5 (sL 8 (sI (sI (nM 26 (sB (nM 27 []))))))))))
abbrev c3 : Mk := sL 8 (n2 (sI (sX [.str,.str,.sl 3,jI,.str,.sl 3,.sl 3,jI] (n5 (sL 8 (sI (sI (nM 31 (sB (nM 22 []))))))))))
abbrev z1 : Mk := sL 8 (n9 (sL 8 (sI (sI (nM 54 [])))))
abbrev e0 : Mk := nM 67 []
abbrev mr : Mk := n2 (sI (nM 64 []))
abbrev T3 := Int × U1
abbrev T2 := LL × LL × Int × Int × U1
abbrev T1 := LL × Int × (BA × BA × LL × Int × BA × LL × LL × Int × U1) × LL × Int × Int × U1
abbrev T0 := LL × Int × (BA × BA × LL × Int × BA × LL × LL × Int × U1) × LL × Int × Int × Bool × U1
def C (k : Nat) : List (Ent PG R) := [blob_IsPath.en k,blob_IsDigest.en k,action_CheckLooks.en k,action_CheckResult.en k,slices_Equal_s_api_Look_api_Look.en k]
def q3 (k : Nat) (Jnrm : Kt R T2) (Jret : Kt R T3) (x : T0) (S : LL) : Option R :=
 ifB x.2.2.2.2.2.2.1 (Jret ((12 : Int),()) S) (ifB (decide (x.2.1 > 0)) (idxL x.1 (IntKind.wrap .i64 (x.2.1 - 1)) fun v17 => asStr (leaf v17 0) fun s18 => ifB (strLt x.2.2.1.1 s18 || strEq x.2.2.1.1 s18) (Jret ((8 : Int),()) S) (Jnrm (x.1,x.2.2.2.1,x.2.2.2.2.1,x.2.2.2.2.2.1,()) S)) (Jnrm (x.1,x.2.2.2.1,x.2.2.2.2.1,x.2.2.2.2.2.1,()) S))
def Q3 (k : Nat) : Pc PG R (su Tryz.f54 507083) := mkEnd T_ok (C k) _ c3 z1 (.cond (.seq .auto (.mask mr .auto)) (.seq (.drawn [] [0,1,2,3,4,5,6,7,8,9,10,11,12,13]) (.cond (.seq .auto (.mask mr .auto)) .auto))) ⟨⟨tr,tr⟩,(drawn_an (by kernel_rfl)),⟨tr,tr⟩,tr⟩ (fun x S K => q3 k (kN K z1) (kR K mr) x S)
def q2 (k : Nat) (Jnrm : Kt R T2) (Jret : Kt R T3) (x : T0) (S : LL) : Option R :=
 ifB x.2.2.2.2.2.2.1 (Jret ((11 : Int),()) S) (slices_Equal_s_api_Look_api_Look.fn k (x.2.2.1.2.2.1,x.2.2.1.2.2.2.2.2.2.1,()) S fun r16 S => q3 k Jnrm Jret (x.1,x.2.1,x.2.2.1,x.2.2.2.1,x.2.2.2.2.1,x.2.2.2.2.2.1,(!r16.1),()) S)
def Q2 (k : Nat) : Pc PG R (su Tryz.f54 113867) := mkEnd T_ok (C k) _ c2 z1 (.cond (.seq .auto (.mask mr .auto)) (.seq .auto (.piece (Q3 k).h))) ⟨⟨tr,tr⟩,tr,(Q3 k).ok⟩ (fun x S K => q2 k (kN K z1) (kR K mr) x S)
def q0 (k : Nat) (Jnrm : Kt R T1) (Jret : Kt R T3) (x : (LL × Int × (BA × BA × LL × Int × BA × LL × LL × Int × U1) × Int × LL × Int × Int × U1)) (S : LL) : Option R :=
 ifB (x.2.2.2.1 != 0) (Jret (x.2.2.2.1,()) S) (Jnrm (x.1,x.2.1,x.2.2.1,x.2.2.2.2) S)
def Q0 (k : Nat) : Pc PG R (su Tryz.f54 56523) := mkEnd T_ok (C k) _ c0 c1 (.seq .auto (.cond (.seq .auto (.mask mr .auto)) .auto)) ⟨tr,⟨tr,tr⟩,tr⟩ (fun x S K => q0 k (kN K c1) (kR K mr) x S)
def q1 (k : Nat) (Jnrm : Kt R T2) (Jret : Kt R T3) (x : T1) (S : LL) : Option R :=
 q2 k Jnrm Jret (x.1,x.2.1,x.2.2.1,x.2.2.2.1,x.2.2.2.2.1,x.2.2.2.2.2.1,(x.2.2.1.2.2.2.1 != 0),()) S
def Q1 (k : Nat) : Pc PG R (su Tryz.f54 31947) := mkEnd T_ok (C k) _ c1 z1 (.block (.seq .auto (.piece (Q2 k).h))) ⟨tr,(Q2 k).ok⟩ (fun x S K => q1 k (kN K z1) (kR K mr) x S)
def b0 (k : Nat) (J0 : Kt R (U1)) (Jret : Kt R T3) (rec : Kt R T2) (x : T2) (S : LL) : Option R :=
 ifB (decide (x.2.2.2.1 < x.2.2.1)) (idxL x.2.1 x.2.2.2.1 fun v1 => mat 8 v1 fun c2 => asStr (c2.getD 0 .any) fun s3 => asStr (c2.getD 1 .any) fun s4 => asSl 3 (c2.getD 2 .any) fun l5 => asInt .i64 (c2.getD 3 .any) fun n6 => asStr (c2.getD 4 .any) fun s7 => asSl 3 (c2.getD 5 .any) fun l8 => asSl 3 (c2.getD 6 .any) fun l9 => asInt .i64 (c2.getD 7 .any) fun n10 => blob_IsPath.fn k (s3,()) S fun r11 S => ifB (!r11.1) (Jret ((3 : Int),()) S) (blob_IsDigest.fn k (s4,()) S fun r12 S => ifB (!r12.1) (Jret ((3 : Int),()) S) (action_CheckLooks.fn k (l5,()) S fun r13 S => ifB (r13.1 != 0) (Jret r13 S) (action_CheckResult.fn k ((n6,s7,l8,l9,n10,()),()) S fun r14 S => q0 k (fun o15 S => q1 k (fun o23 S => rec (o23.1,o23.2.1,o23.2.2.1,(IntKind.wrap .i64 (o23.2.2.2.1 + 1)),()) S) Jret o15 S) Jret (x.1,x.2.2.2.1,(s3,s4,l5,n6,s7,l8,l9,n10,()),r14.1,x.2) S)))) (J0 (()) S)
def L0 (k : Nat) : Pc PG R (.loop (su Tryz.f54 75)) := mkLoop T_ok (C k) _ z1 k (.seq .auto (.seq (.cond .auto (.mask e0 .auto)) (.seq (.block (.seq .auto (.seq (.seq .auto (.cond (.seq .auto (.mask mr .auto)) .auto)) (.seq (.seq .auto (.seq .auto (.cond (.seq .auto (.mask mr .auto)) .auto))) (.seq (.seq .auto (.piece (Q0 k).h)) (.piece (Q1 k).h)))))) .auto))) ⟨tr,⟨tr,tr⟩,⟨tr,⟨tr,⟨tr,tr⟩,tr⟩,⟨tr,tr,⟨tr,tr⟩,tr⟩,⟨tr,(Q0 k).ok⟩,(Q1 k).ok⟩,tr⟩ (fun K => b0 k (kX K 0 e0) (kR K mr))
def fn (k : Nat) (x : (LL × U1)) (S : LL) (K : Kt R T3) : Option R :=
 ifB (decide ((x.1.length : Int) > 500)) (K (2,()) S) (rounds (b0 k (fun o26 S => K (0,()) S) K) k (x.1,x.1,(x.1.length : Int),0,()) S)
def en (k : Nat) : Ent PG R := mkFn T_ok Tryz.func54 ps rs (C k) (.seq .auto (.seq (.seq .auto (.cond (.seq .auto (.mask mr .auto)) .auto)) (.seq (.seq .auto (.block (.piece (L0 k).h))) (.seq .auto (.mask mr .auto))))) ⟨tr,⟨tr,⟨tr,tr⟩,tr⟩,⟨tr,(L0 k).ok⟩,tr,tr⟩ (fn k)
end G.steps_CheckMemory
namespace G.slices_Clone_s_api_Memory_api_Memory_obj
abbrev ps : Mk := sR []
abbrev rs : Mk := sR []
abbrev mr : Mk := n2 (sR (n5 []))
def C (k : Nat) : List (Ent PG R) := []
def fn (k : Nat) (x : (LV × U1)) (S : LL) (K : Kt R (LV × U1)) : Option R :=
 isNil (dup x.1) fun b1 => ifB (b1 == true) (K (.nilsl,()) S) (newObj S (.obj 62 []) fun i2 S => asSl 8 (dup x.1) fun l5 => appO 62 8 136 S (.osl i2 0 8 0) l5 fun v4 S => K (v4,()) S)
def en (k : Nat) : Ent PG R := mkFn T_ok Tryz.func87 ps rs (C k) (.seq .auto (.seq (.seq (.own [(0,2)]) (.cond (.seq .auto (.mask mr .auto)) .auto)) (.seq (.own [(0,1),(1,2),(2,1)]) (.mask mr .auto)))) ⟨tr,⟨tr,⟨tr,tr⟩,tr⟩,tr,tr⟩ (fn k)
end G.slices_Clone_s_api_Memory_api_Memory_obj
namespace G.slices_Clone_s_api_Look_api_Look
abbrev ps : Mk := sL 3 []
abbrev rs : Mk := sO 124 3 []
abbrev mr : Mk := n2 (sO 124 3 (n5 []))
def C (k : Nat) : List (Ent PG R) := []
def fn (k : Nat) (x : (LL × U1)) (S : LL) (K : Kt R (LL × U1)) : Option R :=
 isNil (.sl 3 x.1) fun b1 => ifB (b1 == true) (K ([],()) S) (app 40 [] x.1 fun l2 => K (l2,()) S)
def en (k : Nat) : Ent PG R := mkFn T_ok Tryz.func88 ps rs (C k) (.seq .auto (.seq (.seq .auto (.cond (.seq .auto (.mask mr .auto)) .auto)) (.seq .auto (.mask mr .auto)))) ⟨tr,⟨tr,⟨tr,tr⟩,tr⟩,tr,tr⟩ (fn k)
def anC : An R := .seq .auto (.seq (.seq .auto (.cond (.seq .auto (.mask mr .auto)) .auto)) (.seq .auto (.mask mr .auto)))
theorem body : HSound PG 88 (lbody T (entC (C (R := R) 0)) anC Tryz.f88) :=
 lbody_ok T_ok (entC_ok _) (fun c hc => by
  have : c = cd Tryz.f88 := by
   have e : Tryz.f88.body = some (cd Tryz.f88) := by kernel_rfl
   rw [e] at hc; cases hc; rfl
  subst this
  exact ⟨tr,⟨tr,⟨tr,tr⟩,tr⟩,tr,tr⟩) Tryz.func88 (enters_ok Tryz.func88 (by kernel_rfl) (by kernel_rfl))
end G.slices_Clone_s_api_Look_api_Look
namespace G.slices_Clone_s_api_Look_api_Look_c
abbrev ps : Mk := [some (.lf (.sl 3))]
abbrev rs : Mk := [some (.lf (.own 124 3))]
def fn (_k : Nat) (x : LL × U1) (S : LL) (K : Kt R (LL × U1)) : Option R := handF ps rs (cloneF 40) x S K
theorem ok (k : Nat) : HSound PG 88 (hT (R := R) ps fun x S K => fn k x S fun r S => K (resE rs r) S) :=
 hand_ok (enters_ok Tryz.func88 (by kernel_rfl) (by kernel_rfl)) (ps := ps) (rs := rs) (g := cloneF 40) fun x r S hr => by
  obtain ⟨xs,u⟩ := x
  obtain ⟨rfl,hd⟩ := cloneF_some hr
  refine LCalls.nilCases (fun h => ?_) ?_
  ·have h : xs = [] := h
   subst h
   exact slices_Clone_s_api_Look_api_Look.body.calls (by kernel_rfl)
  ·exact slices_Clone_s_api_Look_api_Look.body.calls (Eq.trans (b := app 40 [] xs fun l => some (.own 124 3 l,S)) (by kernel_rfl) (by rw [app_at hd]; rfl))
def en (k : Nat) : Ent PG R := ⟨88,_,ok k⟩
end G.slices_Clone_s_api_Look_api_Look_c
namespace G.slices_Clone_s_api_File_api_File_obj
abbrev ps : Mk := sR []
abbrev rs : Mk := sR []
abbrev mr : Mk := n2 (sR (n5 []))
def C (k : Nat) : List (Ent PG R) := []
def fn (k : Nat) (x : (LV × U1)) (S : LL) (K : Kt R (LV × U1)) : Option R :=
 isNil (dup x.1) fun b1 => ifB (b1 == true) (K (.nilsl,()) S) (newObj S (.obj 182 []) fun i2 S => asSl 3 (dup x.1) fun l5 => appO 182 3 48 S (.osl i2 0 3 0) l5 fun v4 S => K (v4,()) S)
def en (k : Nat) : Ent PG R := mkFn T_ok Tryz.func171 ps rs (C k) (.seq .auto (.seq (.seq (.own [(0,2)]) (.cond (.seq .auto (.mask mr .auto)) .auto)) (.seq (.own [(0,1),(1,2),(2,1)]) (.mask mr .auto)))) ⟨tr,⟨tr,⟨tr,tr⟩,tr⟩,tr,tr⟩ (fn k)
end G.slices_Clone_s_api_File_api_File_obj
namespace G.slices_Clone_s_byte_byte
abbrev ps : Mk := sL 1 []
abbrev rs : Mk := sO 5 1 []
abbrev mr : Mk := n2 (sO 5 1 (n5 []))
def C (k : Nat) : List (Ent PG R) := []
def fn (k : Nat) (x : (LL × U1)) (S : LL) (K : Kt R (LL × U1)) : Option R :=
 isNil (.sl 1 x.1) fun b1 => ifB (b1 == true) (K ([],()) S) (app 1 [] x.1 fun l2 => K (l2,()) S)
def en (k : Nat) : Ent PG R := mkFn T_ok Tryz.func172 ps rs (C k) (.seq .auto (.seq (.seq .auto (.cond (.seq .auto (.mask mr .auto)) .auto)) (.seq .auto (.mask mr .auto)))) ⟨tr,⟨tr,⟨tr,tr⟩,tr⟩,tr,tr⟩ (fn k)
def anC : An R := .seq .auto (.seq (.seq .auto (.cond (.seq .auto (.mask mr .auto)) .auto)) (.seq .auto (.mask mr .auto)))
theorem body : HSound PG 172 (lbody T (entC (C (R := R) 0)) anC Tryz.f172) :=
 lbody_ok T_ok (entC_ok _) (fun c hc => by
  have : c = cd Tryz.f172 := by
   have e : Tryz.f172.body = some (cd Tryz.f172) := by kernel_rfl
   rw [e] at hc; cases hc; rfl
  subst this
  exact ⟨tr,⟨tr,⟨tr,tr⟩,tr⟩,tr,tr⟩) Tryz.func172 (enters_ok Tryz.func172 (by kernel_rfl) (by kernel_rfl))
end G.slices_Clone_s_byte_byte
namespace G.slices_Clone_s_byte_byte_c
abbrev ps : Mk := [some (.lf (.sl 1))]
abbrev rs : Mk := [some (.lf (.own 5 1))]
def fn (_k : Nat) (x : LL × U1) (S : LL) (K : Kt R (LL × U1)) : Option R := handF ps rs (cloneF 1) x S K
theorem ok (k : Nat) : HSound PG 172 (hT (R := R) ps fun x S K => fn k x S fun r S => K (resE rs r) S) :=
 hand_ok (enters_ok Tryz.func172 (by kernel_rfl) (by kernel_rfl)) (ps := ps) (rs := rs) (g := cloneF 1) fun x r S hr => by
  obtain ⟨xs,u⟩ := x
  obtain ⟨rfl,hd⟩ := cloneF_some hr
  refine LCalls.nilCases (fun h => ?_) ?_
  ·have h : xs = [] := h
   subst h
   exact slices_Clone_s_byte_byte.body.calls (by kernel_rfl)
  ·exact slices_Clone_s_byte_byte.body.calls (Eq.trans (b := app 1 [] xs fun l => some (.own 5 1 l,S)) (by kernel_rfl) (by rw [app_at hd]; rfl))
def en (k : Nat) : Ent PG R := ⟨172,_,ok k⟩
end G.slices_Clone_s_byte_byte_c
namespace G.blob_Own
abbrev ps : Mk := sR []
abbrev rs : Mk := sL 3 []
abbrev e0 : Mk := n3 (sR (nM 20 []))
abbrev m0 : Mk := n3 (sR (n4 (sI (sI (nM 14 [])))))
abbrev mr : Mk := n2 (sL 3 (nM 21 []))
abbrev T0 := LV × Int × Int × U1
def C (k : Nat) : List (Ent PG R) := [slices_Clone_s_api_File_api_File_obj.en k,slices_Clone_s_byte_byte_c.en k]
def b0 (k : Nat) (J0 : Kt R (LV × U1)) (rec : Kt R T0) (x : T0) (S : LL) : Option R :=
 ifB (decide (x.2.2.1 < x.2.1)) (oslOr (dup x.1) (fun i4 p5 z7 n6 => ifB (Nat.beq z7 3) (idxN n6 x.2.2.1 fun v3 => objAt S i4 fun ty c8 => ldSl 1 c8 ((p5 + v3 * z7) + 2) fun l9 => slices_Clone_s_byte_byte_c.fn k (l9,()) S fun r10 S => oslOr (dup x.1) (fun i12 p13 z15 n14 => ifB (Nat.beq z15 3) (idxN n14 x.2.2.1 fun v11 => objAt S i12 fun ty c16 => stO c16 ((p13 + v11 * z15) + 2) [(.own 5 1 r10.1)] fun c17 => setS (S.set i12 (ty c17)) fun S => rec (x.1,x.2.1,(IntKind.wrap .i64 (x.2.2.1 + 1)),()) S) none) none) none) none) (J0 (x.1,()) S)
def L0 (k : Nat) : Pc PG R (.loop (su Tryz.f114 75)) := mkLoop T_ok (C k) _ m0 k (.seq .auto (.seq (.cond .auto (.mask e0 .auto)) (.seq (.block (.seq .auto (.own [(0,2),(2,2),(4,1),(6,1),(8,1),(10,2)]))) .auto))) ⟨tr,⟨tr,tr⟩,⟨tr,tr⟩,tr⟩ (fun K => b0 k (kX K 0 e0))
def fn0 (k : Nat) (x : (LV × U1)) (S : LL) (K : Kt R (LL × U1)) : Option R :=
 slices_Clone_s_api_File_api_File_obj.fn k ((dup x.1),()) S fun r1 S => lenO (dup r1.1) fun n2 => rounds (b0 k (fun o18 S => frzO 3 o18.1 S fun c19 S => K (c19,()) S)) k (r1.1,(n2 : Int),0,()) S
def en0 (k : Nat) : Ent PG R := mkFn T_ok Tryz.func114 ps rs (C k) (.seq .auto (.seq (.own [(0,2)]) (.seq (.seq (.own [(0,2),(1,1)]) (.block (.piece (L0 k).h))) (.seq (.own [(0,1)]) (.frr 2 3 (.mask mr .auto)))))) ⟨tr,tr,⟨tr,(L0 k).ok⟩,tr,tr⟩ (fn0 k)
def fn (k : Nat) (x : (LV × U1)) (S : LL) (K : Kt R (LL × U1)) : Option R := popK rs 6 S (fn0 k x S fun r S => some (resE rs r,S)) K
def en (k : Nat) : Ent PG R := mkPop (rs := rs) (en0 k).ok
end G.blob_Own
namespace G.blob_Own_n
def fn (k : Nat) (x : LL × U1) (S : LL) (K : Kt R (LL × U1)) : Option R := nilK blob_Own.rs 3 x.1 (fun v => blob_Own.fn k (v,()) S fun r S => some (resE blob_Own.rs r,S)) K
def en (k : Nat) : Ent PG R := mkNil blob_Own.rs 3 (blob_Own.en k).ok
end G.blob_Own_n
namespace G.steps_ownResult
abbrev ps : Mk := sA [jI,.str,.sl 3,.sl 3,jI] []
abbrev rs : Mk := sA [jI,.str,.sl 3,.sl 3,jI] []
abbrev mr : Mk := n2 (sX [jI,.str,.sl 3,.sl 3,jI] (n9 []))
abbrev T0 := (Int × BA × LL × LL × Int × U1) × U1
def C (k : Nat) : List (Ent PG R) := [slices_Clone_s_api_Look_api_Look_c.en k,blob_Own_n.en k]
def fn (k : Nat) (x : T0) (S : LL) (K : Kt R T0) : Option R :=
 blob_Own_n.fn k (x.1.2.2.1,()) S fun r1 S => slices_Clone_s_api_Look_api_Look_c.fn k (x.1.2.2.2.1,()) S fun r2 S => K ((x.1.1,x.1.2.1,r1.1,r2.1,x.1.2.2.2.2),()) S
def en (k : Nat) : Ent PG R := mkFn T_ok Tryz.func89 ps rs (C k) (.seq .auto (.seq (.drawn [] [0,1,3,4,2,6,5,7,8,9]) (.seq .auto (.mask mr .auto)))) ⟨tr,(drawn_an (by kernel_rfl)),tr,tr⟩ (fn k)
end G.steps_ownResult
namespace G.steps_own
abbrev ps : Mk := sR []
abbrev rs : Mk := sR []
abbrev e0 : Mk := n3 (sR (nM 30 []))
abbrev m0 : Mk := n3 (sR (n4 (sI (sI (nM 24 [])))))
abbrev mr : Mk := n2 (sR (nM 31 []))
abbrev T0 := LV × Int × Int × U1
def C (k : Nat) : List (Ent PG R) := [slices_Clone_s_api_Memory_api_Memory_obj.en k,slices_Clone_s_api_Look_api_Look_c.en k,steps_ownResult.en k]
def b0 (k : Nat) (J0 : Kt R (LV × U1)) (rec : Kt R T0) (x : T0) (S : LL) : Option R :=
 ifB (decide (x.2.2.1 < x.2.1)) (oslOr (dup x.1) (fun i4 p5 z7 n6 => ifB (Nat.beq z7 8) (idxN n6 x.2.2.1 fun v3 => oslOr (dup x.1) (fun i9 p10 z12 n11 => ifB (Nat.beq z12 8) (idxN n11 x.2.2.1 fun v8 => objAt S i4 fun ty c13 => ldSl 3 c13 ((p5 + v3 * z7) + 2) fun l14 => slices_Clone_s_api_Look_api_Look_c.fn k (l14,()) S fun r15 S' => quiR S S' fun S => objAt S i9 fun ty c16 => ifB (Nat.ble (((p10 + v8 * z12) + 3) + 5) c16.length) (asInt .i64 ((c16.map dupL).getD ((p10 + v8 * z12) + 3) .any) fun n17 => asStr ((c16.map dupL).getD (((p10 + v8 * z12) + 3) + 1) .any) fun s18 => asSl 3 ((c16.map dupL).getD ((((p10 + v8 * z12) + 3) + 1) + 1) .any) fun l19 => asSl 3 ((c16.map dupL).getD (((((p10 + v8 * z12) + 3) + 1) + 1) + 1) .any) fun l20 => asInt .i64 ((c16.map dupL).getD ((((((p10 + v8 * z12) + 3) + 1) + 1) + 1) + 1) .any) fun n21 => steps_ownResult.fn k ((n17,s18,l19,l20,n21,()),()) S fun r22 S' => quiR S S' fun S => oslOr (dup x.1) (fun i24 p25 z27 n26 => ifB (Nat.beq z27 8) (idxN n26 x.2.2.1 fun v23 => objAt S i24 fun ty c28 => stO c28 ((p25 + v23 * z27) + 2) [(.own 124 3 r15.1)] fun c29 => setS (S.set i24 (ty c29)) fun S => oslOr (dup x.1) (fun i31 p32 z34 n33 => ifB (Nat.beq z34 8) (idxN n33 x.2.2.1 fun v30 => objAt S i31 fun ty c35 => stO c35 ((p32 + v30 * z34) + 3) [(.int .i64 r22.1.1),(.str r22.1.2.1),(.sl 3 r22.1.2.2.1),(.sl 3 r22.1.2.2.2.1),(.int .i64 r22.1.2.2.2.2.1)] fun c36 => setS (S.set i31 (ty c36)) fun S => rec (x.1,x.2.1,(IntKind.wrap .i64 (x.2.2.1 + 1)),()) S) none) none) none) none) none) none) none) none) none) (J0 (x.1,()) S)
def L0 (k : Nat) : Pc PG R (.loop (su Tryz.f55 75)) := mkLoop T_ok (C k) _ m0 k (.seq .auto (.seq (.cond .auto (.mask e0 .auto)) (.seq (.block (.seq .auto (.quiet [(0,2),(2,2),(4,2),(6,1),(8,1),(10,2),(12,1),(14,1),(16,1),(18,2),(19,1),(21,1)] [0,1,2,3,4,5,6,7,10,11,12,13,8,9,14,15,16,17,18,19,20,21]))) .auto))) ⟨tr,⟨tr,tr⟩,⟨tr,(quiet_an (by kernel_rfl))⟩,tr⟩ (fun K => b0 k (kX K 0 e0))
def fn (k : Nat) (x : (LV × U1)) (S : LL) (K : Kt R (LV × U1)) : Option R :=
 slices_Clone_s_api_Memory_api_Memory_obj.fn k ((dup x.1),()) S fun r1 S => lenO (dup r1.1) fun n2 => rounds (b0 k K) k (r1.1,(n2 : Int),0,()) S
def en (k : Nat) : Ent PG R := mkFn T_ok Tryz.func55 ps rs (C k) (.seq .auto (.seq (.own [(0,2)]) (.seq (.seq (.own [(0,2),(1,1)]) (.block (.piece (L0 k).h))) (.seq (.own [(0,1)]) (.mask mr .auto))))) ⟨tr,tr,⟨tr,(L0 k).ok⟩,tr,tr⟩ (fn k)
end G.steps_own
namespace G.math_bits_Len64
abbrev ps : Mk := sh (.lf (.int .u64)) []
abbrev rs : Mk := sI []
abbrev c0 : Mk := sh (.lf (.int .u64)) (n1 (sI (nM 22 [])))
abbrev c2 : Mk := sh (.lf (.int .u64)) (n1 (sI (nM 11 (sB (nX [])))))
abbrev c5 : Mk := sh (.lf (.int .u64)) (n1 (sI (n5 (sB (nM 16 [])))))
abbrev mr : Mk := n2 (sI (nM 22 []))
abbrev T2 := Int × U1
abbrev T1 := Int × Int × U1
abbrev T0 := Int × Int × Bool × U1
def C (k : Nat) : List (Ent PG R) := []
def q3 (k : Nat) (Jnrm : Kt R T1)  (x : T1) (S : LL) : Option R :=
 Jnrm (x.1,(IntKind.wrap .i64 (x.2.1 + 8)),()) S
def Q3 (k : Nat) : Pc PG R (su Tryz.f124 215) := mkEnd T_ok (C k) _ c0 c0 (.auto) tr (fun x S K => q3 k (kN K c0) x S)
def q6 (k : Nat) (Jnrm : Kt R T1)  (x : T1) (S : LL) : Option R :=
 Jnrm (x.1,(IntKind.wrap .i64 (x.2.1 + 16)),()) S
def Q6 (k : Nat) : Pc PG R (su Tryz.f124 107) := mkEnd T_ok (C k) _ c0 c0 (.auto) tr (fun x S K => q6 k (kN K c0) x S)
def q2 (k : Nat) (Jnrm : Kt R T1)  (x : T0) (S : LL) : Option R :=
 ifB x.2.2.1 (ifB (decide ((8 : Int) < 0)) (none) (q3 k Jnrm ((shI .shr .u64 x.1 (8 : Int)),x.2.1,()) S)) (Jnrm (x.1,x.2.1,()) S)
def Q2 (k : Nat) : Pc PG R (su Tryz.f124 55) := mkEnd T_ok (C k) _ c2 c0 (.cond (.seq .auto (.piece (Q3 k).h)) .auto) ⟨⟨tr,(Q3 k).ok⟩,tr⟩ (fun x S K => q2 k (kN K c0) x S)
def q0 (k : Nat) (Jret : Kt R T2) (x : T1) (S : LL) : Option R :=
 idxStr (bs [0,1,2,2,3,3,3,3,4,4,4,4,4,4,4,4,5,5,5,5,5,5,5,5,5,5,5,5,5,5,5,5,6,6,6,6,6,6,6,6,6,6,6,6,6,6,6,6,6,6,6,6,6,6,6,6,6,6,6,6,6,6,6,6,7,7,7,7,7,7,7,7,7,7,7,7,7,7,7,7,7,7,7,7,7,7,7,7,7,7,7,7,7,7,7,7,7,7,7,7,7,7,7,7,7,7,7,7,7,7,7,7,7,7,7,7,7,7,7,7,7,7,7,7,7,7,7,7,8,8,8,8,8,8,8,8,8,8,8,8,8,8,8,8,8,8,8,8,8,8,8,8,8,8,8,8,8,8,8,8,8,8,8,8,8,8,8,8,8,8,8,8,8,8,8,8,8,8,8,8,8,8,8,8,8,8,8,8,8,8,8,8,8,8,8,8,8,8,8,8,8,8,8,8,8,8,8,8,8,8,8,8,8,8,8,8,8,8,8,8,8,8,8,8,8,8,8,8,8,8,8,8,8,8,8,8,8,8,8,8,8,8,8,8,8,8,8,8,8,8,8,8,8,8,8,8]) (IntKind.wrap .u8 x.1) fun c5 => Jret ((IntKind.wrap .i64 (x.2.1 + (IntKind.wrap .i64 c5))),()) S
def Q0 (k : Nat) : Pc PG R (su Tryz.f124 31) := mkCut T_ok (C k) _ c0 (.seq .auto (.mask mr .auto)) ⟨tr,tr⟩ (fun x S K => q0 k (kR K mr) x S)
def q5 (k : Nat) (Jnrm : Kt R T1)  (x : T0) (S : LL) : Option R :=
 ifB x.2.2.1 (ifB (decide ((16 : Int) < 0)) (none) (q6 k Jnrm ((shI .shr .u64 x.1 (16 : Int)),x.2.1,()) S)) (Jnrm (x.1,x.2.1,()) S)
def Q5 (k : Nat) : Pc PG R (su Tryz.f124 27) := mkEnd T_ok (C k) _ c5 c0 (.cond (.seq .auto (.piece (Q6 k).h)) .auto) ⟨⟨tr,(Q6 k).ok⟩,tr⟩ (fun x S K => q5 k (kN K c0) x S)
def q1 (k : Nat) (Jret : Kt R T2) (x : T1) (S : LL) : Option R :=
 q2 k (fun o4 S => q0 k Jret o4 S) (x.1,x.2.1,(decide (x.1 ≥ 256)),()) S
def Q1 (k : Nat) : Pc PG R (su Tryz.f124 15) := mkCut T_ok (C k) _ c0 (.seq (.seq .auto (.piece (Q2 k).h)) (.piece (Q0 k).h)) ⟨⟨tr,(Q2 k).ok⟩,(Q0 k).ok⟩ (fun x S K => q1 k (kR K mr) x S)
def q4 (k : Nat) (Jret : Kt R T2) (x : T1) (S : LL) : Option R :=
 q5 k (fun o2 S => q1 k Jret o2 S) (x.1,x.2.1,(decide (x.1 ≥ 65536)),()) S
def Q4 (k : Nat) : Pc PG R (su Tryz.f124 7) := mkCut T_ok (C k) _ c0 (.seq (.seq .auto (.piece (Q5 k).h)) (.piece (Q1 k).h)) ⟨⟨tr,(Q5 k).ok⟩,(Q1 k).ok⟩ (fun x S K => q4 k (kR K mr) x S)
def fn (k : Nat) (x : T2) (S : LL) (K : Kt R T2) : Option R :=
 ifB (decide (x.1 ≥ 4294967296)) (ifB (decide ((32 : Int) < 0)) (none) (q4 k K ((shI .shr .u64 x.1 (32 : Int)),32,()) S)) (q4 k K (x.1,0,()) S)
def en (k : Nat) : Ent PG R := mkFn T_ok Tryz.func124 ps rs (C k) (.seq .auto (.seq (.seq .auto (.cond (.seq .auto .auto) .auto)) (.piece (Q4 k).h))) ⟨tr,⟨tr,⟨tr,tr⟩,tr⟩,(Q4 k).ok⟩ (fn k)
end G.math_bits_Len64
namespace G.math_bits_Len
abbrev ps : Mk := sh (.lf (.int .u64)) []
abbrev rs : Mk := sI []
abbrev mr : Mk := n2 (sI (n5 []))
def C (k : Nat) : List (Ent PG R) := [math_bits_Len64.en k]
def fn (k : Nat) (x : (Int × U1)) (S : LL) (K : Kt R (Int × U1)) : Option R :=
 math_bits_Len64.fn k x S K
def en (k : Nat) : Ent PG R := mkFn T_ok Tryz.func91 ps rs (C k) (.seq .auto (.seq (.cond (.seq .auto (.mask mr .auto)) .auto) (.seq .auto (.mask mr .auto)))) ⟨tr,⟨⟨tr,tr⟩,tr⟩,tr,tr⟩ (fn k)
end G.math_bits_Len
namespace G.strings_Compare
abbrev ps : Mk := sS (sS [])
abbrev rs : Mk := sI []
abbrev mr : Mk := n4 (sI (n3 []))
def C (k : Nat) : List (Ent PG R) := [⟨92,H.CompareString.h k,H.CompareString.ok k⟩]
def fn (k : Nat) (x : (BA × BA × U1)) (S : LL) (K : Kt R (Int × U1)) : Option R :=
 H.CompareString.fn k x S K
def en (k : Nat) : Ent PG R := mkFn T_ok Tryz.func58 ps rs (C k) (.seq .auto (.seq .auto (.mask mr .auto))) ⟨tr,tr,tr⟩ (fn k)
end G.strings_Compare
namespace G.steps_Joined_1
abbrev ps : Mk := sA [.str,.str,.sl 3,jI,.str,.sl 3,.sl 3,jI] (sA [.str,.str,.sl 3,jI,.str,.sl 3,.sl 3,jI] [])
abbrev rs : Mk := sI []
abbrev mr : Mk := n4 (sI (n5 []))
abbrev T0 := BA × BA × LL × Int × BA × LL × LL × Int × U1
def C (k : Nat) : List (Ent PG R) := [strings_Compare.en k]
def fn (k : Nat) (x : (T0 × T0 × U1)) (S : LL) (K : Kt R (Int × U1)) : Option R :=
 strings_Compare.fn k (x.1.1,x.2.1.1,()) S K
def en (k : Nat) : Ent PG R := mkFn T_ok Tryz.func57 ps rs (C k) (.seq .auto (.seq .auto (.mask mr .auto))) ⟨tr,tr,tr⟩ (fn k)
end G.steps_Joined_1
namespace G.slices_insertionSortCmpFunc_api_Memory_at_steps_Joined_1
abbrev ps : Mk := sR (sI (sI (sh (.fn 57 []) [])))
abbrev rs : Mk := []
abbrev c0 : Mk := sR (sI (sI (sh (.fn 57 []) (n4 (sI (sI (nM 43 [])))))))
abbrev e0 : Mk := nM 53 []
abbrev e2 : Mk := sR (sI (sI (sh (.fn 57 []) (n4 (sI (nM 44 []))))))
abbrev T1 := LV × Int × Int × (U1) × Int × U1
abbrev T0 := LV × Int × Int × (U1) × Int × Int × U1
def C (k : Nat) : List (Ent PG R) := [steps_Joined_1.en k]
def q0 (k : Nat) (Jnrm : Kt R T0)  (x : T0) (S : LL) : Option R :=
 Jnrm (x.1,x.2.1,x.2.2.1,(()),x.2.2.2.2.1,(IntKind.wrap .i64 (x.2.2.2.2.2.1 - 1)),()) S
def Q0 (k : Nat) : Pc PG R (su Tryz.f115 3657) := mkEnd T_ok (C k) _ c0 c0 (.auto) tr (fun x S K => q0 k (kN K c0) x S)
def b1 (k : Nat) (J2 : Kt R T1) (rec : Kt R T0) (x : T0) (S : LL) : Option R :=
 ifB (decide (x.2.2.2.2.2.1 > x.2.1)) (oslOr (dup x.1) (fun i2 p3 z5 n4 => ifB (Nat.beq z5 8) (idxN n4 x.2.2.2.2.2.1 fun v1 => oslOr (dup x.1) (fun i7 p8 z10 n9 => ifB (Nat.beq z10 8) (idxN n9 (IntKind.wrap .i64 (x.2.2.2.2.2.1 - 1)) fun v6 => objAt S i2 fun ty c11 => ifB (Nat.ble ((p3 + v1 * z5) + 8) c11.length) (asStr ((c11.map dupL).getD (p3 + v1 * z5) .any) fun s12 => asStr ((c11.map dupL).getD ((p3 + v1 * z5) + 1) .any) fun s13 => asSl 3 ((c11.map dupL).getD (((p3 + v1 * z5) + 1) + 1) .any) fun l14 => asInt .i64 ((c11.map dupL).getD ((((p3 + v1 * z5) + 1) + 1) + 1) .any) fun n15 => asStr ((c11.map dupL).getD (((((p3 + v1 * z5) + 1) + 1) + 1) + 1) .any) fun s16 => asSl 3 ((c11.map dupL).getD ((((((p3 + v1 * z5) + 1) + 1) + 1) + 1) + 1) .any) fun l17 => asSl 3 ((c11.map dupL).getD (((((((p3 + v1 * z5) + 1) + 1) + 1) + 1) + 1) + 1) .any) fun l18 => asInt .i64 ((c11.map dupL).getD ((((((((p3 + v1 * z5) + 1) + 1) + 1) + 1) + 1) + 1) + 1) .any) fun n19 => objAt S i7 fun ty c20 => ifB (Nat.ble ((p8 + v6 * z10) + 8) c20.length) (asStr ((c20.map dupL).getD (p8 + v6 * z10) .any) fun s21 => asStr ((c20.map dupL).getD ((p8 + v6 * z10) + 1) .any) fun s22 => asSl 3 ((c20.map dupL).getD (((p8 + v6 * z10) + 1) + 1) .any) fun l23 => asInt .i64 ((c20.map dupL).getD ((((p8 + v6 * z10) + 1) + 1) + 1) .any) fun n24 => asStr ((c20.map dupL).getD (((((p8 + v6 * z10) + 1) + 1) + 1) + 1) .any) fun s25 => asSl 3 ((c20.map dupL).getD ((((((p8 + v6 * z10) + 1) + 1) + 1) + 1) + 1) .any) fun l26 => asSl 3 ((c20.map dupL).getD (((((((p8 + v6 * z10) + 1) + 1) + 1) + 1) + 1) + 1) .any) fun l27 => asInt .i64 ((c20.map dupL).getD ((((((((p8 + v6 * z10) + 1) + 1) + 1) + 1) + 1) + 1) + 1) .any) fun n28 => steps_Joined_1.fn k ((s12,s13,l14,n15,s16,l17,l18,n19,()),(s21,s22,l23,n24,s25,l26,l27,n28,()),()) S fun r29 S => ifB (decide (r29.1 < 0)) (oslOr (dup x.1) (fun i31 p32 z34 n33 => ifB (Nat.beq z34 8) (idxN n33 (IntKind.wrap .i64 (x.2.2.2.2.2.1 - 1)) fun v30 => oslOr (dup x.1) (fun i36 p37 z39 n38 => ifB (Nat.beq z39 8) (idxN n38 x.2.2.2.2.2.1 fun v35 => objAt S i31 fun ty c40 => ifB (Nat.ble ((p32 + v30 * z34) + 8) c40.length) (asStr ((c40.map dupL).getD (p32 + v30 * z34) .any) fun s41 => asStr ((c40.map dupL).getD ((p32 + v30 * z34) + 1) .any) fun s42 => asSl 3 ((c40.map dupL).getD (((p32 + v30 * z34) + 1) + 1) .any) fun l43 => asInt .i64 ((c40.map dupL).getD ((((p32 + v30 * z34) + 1) + 1) + 1) .any) fun n44 => asStr ((c40.map dupL).getD (((((p32 + v30 * z34) + 1) + 1) + 1) + 1) .any) fun s45 => asSl 3 ((c40.map dupL).getD ((((((p32 + v30 * z34) + 1) + 1) + 1) + 1) + 1) .any) fun l46 => asSl 3 ((c40.map dupL).getD (((((((p32 + v30 * z34) + 1) + 1) + 1) + 1) + 1) + 1) .any) fun l47 => asInt .i64 ((c40.map dupL).getD ((((((((p32 + v30 * z34) + 1) + 1) + 1) + 1) + 1) + 1) + 1) .any) fun n48 => objAt S i36 fun ty c49 => ifB (Nat.ble ((p37 + v35 * z39) + 8) c49.length) (asStr ((c49.map dupL).getD (p37 + v35 * z39) .any) fun s50 => asStr ((c49.map dupL).getD ((p37 + v35 * z39) + 1) .any) fun s51 => asSl 3 ((c49.map dupL).getD (((p37 + v35 * z39) + 1) + 1) .any) fun l52 => asInt .i64 ((c49.map dupL).getD ((((p37 + v35 * z39) + 1) + 1) + 1) .any) fun n53 => asStr ((c49.map dupL).getD (((((p37 + v35 * z39) + 1) + 1) + 1) + 1) .any) fun s54 => asSl 3 ((c49.map dupL).getD ((((((p37 + v35 * z39) + 1) + 1) + 1) + 1) + 1) .any) fun l55 => asSl 3 ((c49.map dupL).getD (((((((p37 + v35 * z39) + 1) + 1) + 1) + 1) + 1) + 1) .any) fun l56 => asInt .i64 ((c49.map dupL).getD ((((((((p37 + v35 * z39) + 1) + 1) + 1) + 1) + 1) + 1) + 1) .any) fun n57 => oslOr (dup x.1) (fun i59 p60 z62 n61 => ifB (Nat.beq z62 8) (idxN n61 x.2.2.2.2.2.1 fun v58 => objAt S i59 fun ty c63 => stO c63 (p60 + v58 * z62) [(.str s41),(.str s42),(.sl 3 l43),(.int .i64 n44),(.str s45),(.sl 3 l46),(.sl 3 l47),(.int .i64 n48)] fun c64 => setS (S.set i59 (ty c64)) fun S => oslOr (dup x.1) (fun i66 p67 z69 n68 => ifB (Nat.beq z69 8) (idxN n68 (IntKind.wrap .i64 (x.2.2.2.2.2.1 - 1)) fun v65 => objAt S i66 fun ty c70 => stO c70 (p67 + v65 * z69) [(.str s50),(.str s51),(.sl 3 l52),(.int .i64 n53),(.str s54),(.sl 3 l55),(.sl 3 l56),(.int .i64 n57)] fun c71 => setS (S.set i66 (ty c71)) fun S => q0 k (fun o72 S => rec (o72.1,o72.2.1,o72.2.2.1,(()),o72.2.2.2.2) S) (x.1,x.2.1,x.2.2.1,(()),x.2.2.2.2) S) none) none) none) none) none) none) none) none) none) none) (J2 (x.1,x.2.1,x.2.2.1,(()),x.2.2.2.2.1,()) S)) none) none) none) none) none) none) (J2 (x.1,x.2.1,x.2.2.1,(()),x.2.2.2.2.1,()) S)
def L1 (k : Nat) : Pc PG R (.loop (su Tryz.f115 585)) := mkLoop T_ok (C k) _ c0 k (.seq (.seq (.drawn [(5,2),(7,1),(8,1),(9,2),(12,1),(13,1)] [0,1,2,3,4,5,6,7,9,10,11,12,8,13,14,15,16]) (.cond .auto (.mask e2 .auto))) (.seq (.block (.drawn [(0,2),(2,2),(5,2),(8,1),(9,1),(10,2),(12,1),(13,1),(14,1),(15,1),(16,1),(17,1)] [0,1,2,3,4,5,6,7,8,10,11,12,9,13,14,15,16,17])) (.piece (Q0 k).h))) ⟨⟨(drawn_an (by kernel_rfl)),tr,tr⟩,(drawn_an (by kernel_rfl)),(Q0 k).ok⟩ (fun K => b1 k (kX K 2 e2))
def b0 (k : Nat) (J0 : Kt R (U1)) (rec : Kt R T1) (x : T1) (S : LL) : Option R :=
 ifB (decide (x.2.2.2.2.1 < x.2.2.1)) (rounds (b1 k (fun o73 S => rec (o73.1,o73.2.1,o73.2.2.1,(()),(IntKind.wrap .i64 (o73.2.2.2.2.1 + 1)),()) S)) k (x.1,x.2.1,x.2.2.1,(()),x.2.2.2.2.1,x.2.2.2.2) S) (J0 (()) S)
def L0 (k : Nat) : Pc PG R (.loop (su Tryz.f115 9)) := mkLoop T_ok (C k) _ e2 k (.seq (.seq .auto (.cond .auto (.mask e0 .auto))) (.seq (.block (.seq .auto (.block (.piece (L1 k).h)))) .auto)) ⟨⟨tr,tr,tr⟩,⟨tr,(L1 k).ok⟩,tr⟩ (fun K => b0 k (kX K 0 e0))
def fn (k : Nat) (x : (LV × Int × Int × (U1) × U1)) (S : LL) (K : Kt R (U1)) : Option R :=
 rounds (b0 k (fun o74 S => K (()) S)) k (x.1,x.2.1,x.2.2.1,(()),(IntKind.wrap .i64 (x.2.1 + 1)),()) S
def en (k : Nat) : Ent PG R := mkFn T_ok Tryz.func115 ps rs (C k) (.seq .auto (.block (.piece (L0 k).h))) ⟨tr,(L0 k).ok⟩ (fn k)
end G.slices_insertionSortCmpFunc_api_Memory_at_steps_Joined_1
namespace G.slices_pdqsortCmpFunc_api_Memory_at_steps_Joined_1
abbrev ps : Mk := sR (sI (sI (sI (sh (.fn 57 []) []))))
abbrev rs : Mk := []
abbrev m0 : Mk := sR (sI (sI (sI (sh (.fn 57 []) (n5 (sB (sB (nM 136 []))))))))
abbrev mr : Mk := nM 148 []
abbrev T0 := LV × Int × Int × Int × (U1) × Bool × Bool × U1
def C (k : Nat) : List (Ent PG R) := [slices_insertionSortCmpFunc_api_Memory_at_steps_Joined_1.en k]
def b0 (k : Nat) (Jret : Kt R (U1)) (rec : Kt R T0) (x : T0) (S : LL) : Option R :=
 ifB (decide ((IntKind.wrap .i64 (x.2.2.1 - x.2.1)) ≤ 12)) (slices_insertionSortCmpFunc_api_Memory_at_steps_Joined_1.fn k ((dup x.1),x.2.1,x.2.2.1,(()),()) S fun r1 S => Jret (()) S) (ifB (x.2.2.2.1 == 0) (none) (ifB (!x.2.2.2.2.2.1) (none) (none)))
def L0 (k : Nat) : Pc PG R (.loop (su Tryz.f90 19)) := mkLoop T_ok (C k) _ m0 k (.block (.seq .auto (.seq (.seq .auto (.cond (.seq (.own [(0,2)]) (.mask mr .auto)) .auto)) (.seq (.seq .auto (.cond (.seq (.own [(0,2)]) (.mask mr .auto)) .auto)) (.seq (.seq .auto (.cond (.seq (.own [(0,2)]) .auto) .auto)) (.seq (.own [(0,2),(5,1)]) (.seq (.seq .auto (.cond (.seq .auto (.seq .auto .auto)) .auto)) (.seq (.seq .auto (.cond (.seq .auto (.cond (.mask mr .auto) .auto)) .auto)) (.seq (.seq .auto (.cond (.seq .auto (.seq .auto .auto)) .auto)) (.seq .auto (.seq .auto (.seq .auto (.seq .auto (.seq .auto (.cond (.seq .auto (.seq .auto .auto)) (.seq .auto (.seq .auto .auto))))))))))))))))) ⟨tr,⟨tr,⟨tr,tr⟩,tr⟩,⟨tr,⟨tr,tr⟩,tr⟩,⟨tr,⟨tr,tr⟩,tr⟩,tr,⟨tr,⟨tr,tr,tr⟩,tr⟩,⟨tr,⟨tr,tr,tr⟩,tr⟩,⟨tr,⟨tr,tr,tr⟩,tr⟩,tr,tr,tr,tr,tr,⟨tr,tr,tr⟩,tr,tr,tr⟩ (fun K => b0 k (kR K mr))
def fn (k : Nat) (x : (LV × Int × Int × Int × (U1) × U1)) (S : LL) (K : Kt R (U1)) : Option R :=
 rounds (b0 k (fun o2 S => K (()) S)) k (x.1,x.2.1,x.2.2.1,x.2.2.2.1,(()),true,true,()) S
def en (k : Nat) : Ent PG R := mkFn T_ok Tryz.func90 ps rs (C k) (.seq .auto (.seq .auto (.block (.piece (L0 k).h)))) ⟨tr,tr,(L0 k).ok⟩ (fn k)
end G.slices_pdqsortCmpFunc_api_Memory_at_steps_Joined_1
namespace G.slices_SortFunc_s_api_Memory_api_Memory_at_steps_Joined_1
abbrev ps : Mk := sR (sh (.fn 57 []) [])
abbrev rs : Mk := []
def C (k : Nat) : List (Ent PG R) := [slices_pdqsortCmpFunc_api_Memory_at_steps_Joined_1.en k,math_bits_Len.en k]
def fn (k : Nat) (x : (LV × (U1) × U1)) (S : LL) (K : Kt R (U1)) : Option R :=
 lenO (dup x.1) fun n1 => math_bits_Len.fn k ((IntKind.wrap .u64 (n1 : Int)),()) S fun r2 S => slices_pdqsortCmpFunc_api_Memory_at_steps_Joined_1.fn k ((dup x.1),0,(n1 : Int),r2.1,(()),()) S fun r3 S => K (()) S
def en (k : Nat) : Ent PG R := mkFn T_ok Tryz.func56 ps rs (C k) (.seq (.own [(0,2),(1,1)]) (.own [(0,2)])) ⟨tr,tr⟩ (fn k)
end G.slices_SortFunc_s_api_Memory_api_Memory_at_steps_Joined_1
namespace G.steps_Joined
abbrev ps : Mk := sR (sR [])
abbrev rs : Mk := sL 8 (sI [])
abbrev e0 : Mk := sR (sR (n6 (sh (.lf (.map)) (nM 51 []))))
abbrev e2 : Mk := nM 11 (sR (nM 48 []))
abbrev m0 : Mk := sR (sR (n6 (sh (.lf (.map)) (nM 16 (sR (sI (sI (nM 32 []))))))))
abbrev m1 : Mk := n8 (sh (.lf (.map)) (n2 (sR (nM 26 (sR (sI (sI (nM 19 []))))))))
abbrev mr : Mk := n4 (sL 8 (sI (nM 54 [])))
abbrev T1 := Nat × LV × LV × Int × Int × U1
abbrev T0 := LV × LV × Nat × LV × Int × Int × U1
def C (k : Nat) : List (Ent PG R) := [steps_CheckMemory.en k,steps_own.en k,slices_SortFunc_s_api_Memory_api_Memory_at_steps_Joined_1.en k]
def b1 (k : Nat) (J2 : Kt R (LV × U1)) (rec : Kt R T1) (x : T1) (S : LL) : Option R :=
 ifB (decide (x.2.2.2.2.1 < x.2.2.2.1)) (oslOr x.2.2.1 (fun i27 p28 z30 n29 => ifB (Nat.beq z30 8) (idxN n29 x.2.2.2.2.1 fun v26 => objAt S i27 fun ty c31 => ifB (Nat.ble ((p28 + v26 * z30) + 8) c31.length) (asStr ((c31.map dupL).getD (p28 + v26 * z30) .any) fun s32 => asStr ((c31.map dupL).getD ((p28 + v26 * z30) + 1) .any) fun s33 => asSl 3 ((c31.map dupL).getD (((p28 + v26 * z30) + 1) + 1) .any) fun l34 => asInt .i64 ((c31.map dupL).getD ((((p28 + v26 * z30) + 1) + 1) + 1) .any) fun n35 => asStr ((c31.map dupL).getD (((((p28 + v26 * z30) + 1) + 1) + 1) + 1) .any) fun s36 => asSl 3 ((c31.map dupL).getD ((((((p28 + v26 * z30) + 1) + 1) + 1) + 1) + 1) .any) fun l37 => asSl 3 ((c31.map dupL).getD (((((((p28 + v26 * z30) + 1) + 1) + 1) + 1) + 1) + 1) .any) fun l38 => asInt .i64 ((c31.map dupL).getD ((((((((p28 + v26 * z30) + 1) + 1) + 1) + 1) + 1) + 1) + 1) .any) fun n39 => mpAt S x.1 .str fun m40 => asBool ((mapGet m40 (.str s32)).getD (.bool false)) fun b41 => ifB (!b41) (appO 62 8 136 S x.2.1 [(.agg [(.str s32),(.str s33),(.sl 3 l34),(.int .i64 n35),(.str s36),(.sl 3 l37),(.sl 3 l38),(.int .i64 n39)])] fun v43 S => rec (x.1,v43,x.2.2.1,x.2.2.2.1,(IntKind.wrap .i64 (x.2.2.2.2.1 + 1)),()) S) (rec (x.1,x.2.1,x.2.2.1,x.2.2.2.1,(IntKind.wrap .i64 (x.2.2.2.2.1 + 1)),()) S)) none) none) none) (J2 (x.2.1,()) S)
def L1 (k : Nat) : Pc PG R (.loop (su Tryz.f26 1215)) := mkLoop T_ok (C k) _ m1 k (.seq .auto (.seq (.cond .auto (.mask e2 .auto)) (.seq (.block (.seq (.own [(0,1),(1,1)]) (.seq .auto (.cond (.own [(0,1),(3,1)]) .auto)))) .auto))) ⟨tr,⟨tr,tr⟩,⟨tr,tr,tr,tr⟩,tr⟩ (fun K => b1 k (kX K 2 e2))
def b0 (k : Nat) (J0 : Kt R (LV × LV × Nat × U1)) (rec : Kt R T0) (x : T0) (S : LL) : Option R :=
 ifB (decide (x.2.2.2.2.2.1 < x.2.2.2.2.1)) (oslOr x.2.2.2.1 (fun i8 p9 z11 n10 => ifB (Nat.beq z11 8) (idxN n10 x.2.2.2.2.2.1 fun v7 => objAt S i8 fun ty c12 => ifB (Nat.ble ((p9 + v7 * z11) + 8) c12.length) (asStr ((c12.map dupL).getD (p9 + v7 * z11) .any) fun s13 => asStr ((c12.map dupL).getD ((p9 + v7 * z11) + 1) .any) fun s14 => asSl 3 ((c12.map dupL).getD (((p9 + v7 * z11) + 1) + 1) .any) fun l15 => asInt .i64 ((c12.map dupL).getD ((((p9 + v7 * z11) + 1) + 1) + 1) .any) fun n16 => asStr ((c12.map dupL).getD (((((p9 + v7 * z11) + 1) + 1) + 1) + 1) .any) fun s17 => asSl 3 ((c12.map dupL).getD ((((((p9 + v7 * z11) + 1) + 1) + 1) + 1) + 1) .any) fun l18 => asSl 3 ((c12.map dupL).getD (((((((p9 + v7 * z11) + 1) + 1) + 1) + 1) + 1) + 1) .any) fun l19 => asInt .i64 ((c12.map dupL).getD ((((((((p9 + v7 * z11) + 1) + 1) + 1) + 1) + 1) + 1) + 1) .any) fun n20 => mpAt S x.2.2.1 .str fun m21 => setS (S.set x.2.2.1 (.mp .str (mapPut m21 (.str s13) (.bool true)))) fun S => rec (x.1,x.2.1,x.2.2.1,x.2.2.2.1,x.2.2.2.2.1,(IntKind.wrap .i64 (x.2.2.2.2.2.1 + 1)),()) S) none) none) none) (J0 (x.1,x.2.1,x.2.2.1,()) S)
def L0 (k : Nat) : Pc PG R (.loop (su Tryz.f26 303)) := mkLoop T_ok (C k) _ m0 k (.seq .auto (.seq (.cond .auto (.mask e0 .auto)) (.seq (.block (.seq (.own [(0,1),(1,1)]) .auto)) .auto))) ⟨tr,⟨tr,tr⟩,⟨tr,tr⟩,tr⟩ (fun K => b0 k (kX K 0 e0))
def fn0 (k : Nat) (x : (LV × LV × U1)) (S : LL) (K : Kt R (LL × Int × U1)) : Option R :=
 asSl 8 x.1 fun l1 => steps_CheckMemory.fn k (l1,()) S fun r2 S => ifB (r2.1 != 0) (K ([],r2) S) (asSl 8 x.2.1 fun l3 => steps_CheckMemory.fn k (l3,()) S fun r4 S => ifB (r4.1 != 0) (K ([],r4) S) (newObj S (.mp .str []) fun i5 S => lenO (dup x.1) fun n6 => rounds (b0 k (fun o22 S => steps_own.fn k ((dup o22.1),()) S fun r23 S => steps_own.fn k ((dup o22.2.1),()) S fun r24 S => lenO r24.1 fun n25 => rounds (b1 k (fun o44 S => lenO (dup o44.1) fun n45 => ifB (decide ((n45 : Int) > 500)) (K ([],2,()) S) (slices_SortFunc_s_api_Memory_api_Memory_at_steps_Joined_1.fn k ((dup o44.1),(()),()) S fun r46 S => frzO 8 o44.1 S fun c47 S => K (c47,0,()) S))) k (o22.2.2.1,r23.1,r24.1,(n25 : Int),0,()) S)) k (x.1,x.2.1,i5,(dup x.1),(n6 : Int),0,()) S))
def en0 (k : Nat) : Ent PG R := mkFn T_ok Tryz.func26 ps rs (C k) (.seq .auto (.seq (.seq (.own [(0,10)]) (.seq .auto (.cond (.seq .auto (.mask mr .auto)) .auto))) (.seq (.seq (.own [(0,10)]) (.seq .auto (.cond (.seq .auto (.mask mr .auto)) .auto))) (.seq .auto (.seq (.seq (.own [(0,2),(1,1)]) (.block (.piece (L0 k).h))) (.seq (.own [(0,2)]) (.seq (.seq (.own [(0,2),(2,1)]) (.block (.piece (L1 k).h))) (.seq (.seq (.own [(0,2),(1,1)]) (.cond (.seq .auto (.mask mr .auto)) .auto)) (.seq (.own [(0,2)]) (.seq (.own [(0,1)]) (.frr 4 8 (.mask mr .auto)))))))))))) ⟨tr,⟨tr,tr,⟨tr,tr⟩,tr⟩,⟨tr,tr,⟨tr,tr⟩,tr⟩,tr,⟨tr,(L0 k).ok⟩,tr,⟨tr,(L1 k).ok⟩,⟨tr,⟨tr,tr⟩,tr⟩,tr,tr,tr⟩ (fn0 k)
def fn (k : Nat) (x : (LV × LV × U1)) (S : LL) (K : Kt R (LL × Int × U1)) : Option R := popK rs 6 S (fn0 k x S fun r S => some (resE rs r,S)) K
def en (k : Nat) : Ent PG R := mkPop (rs := rs) (en0 k).ok
end G.steps_Joined
namespace G.smithyardlaw6_awake
abbrev ps : Mk := []
abbrev rs : Mk := sB []
abbrev mr : Mk := sB (nM 22 [])
def C (k : Nat) : List (Ent PG R) := [steps_Joined.en k]
def fn (k : Nat) (x : (U1)) (S : LL) (K : Kt R (Bool × U1)) : Option R :=
 steps_Joined.fn k (.nilsl,(.own 62 8 [(.agg [(.str (bs [97])),(.str (bs [48,49,50,51,52,53,54,55,56,57,97,98,99,100,101,102])),.nilsl,(.int .i64 (0 : Int)),(.str (bs [])),.nilsl,.nilsl,(.int .i64 (0 : Int))])]),()) S fun r1 S => ifB (r1.2.1 == 0) (ifB ((r1.1.length : Int) == 1) (idxL r1.1 (0 : Int) fun v2 => asStr (leaf v2 0) fun s3 => K ((strEq s3 (bs [97])),()) S) (K (false,()) S)) (K (false,()) S)
def en (k : Nat) : Ent PG R := mkFn T_ok Tryz.func8 ps rs (C k) (.seq .auto (.seq (.own [(3,1)]) (.seq .auto (.mask mr .auto)))) ⟨tr,tr,tr,tr⟩ (fn k)
end G.smithyardlaw6_awake
namespace G.smithyardlaw6_StepsSuspectsMatchSpec
abbrev ps : Mk := sL 8 (sL 1 [])
abbrev rs : Mk := sB []
abbrev mr : Mk := n4 (sB (nM 43 []))
def C (k : Nat) : List (Ent PG R) := [smithyardlaw6_awake.en k,smithyardref6_CopyRules.en k,smithyardref6_SameRules.en k,slices_Clone_s_string_string_c.en k,steps_Suspects.en k,smithyardref6_Suspects.en k,slices_Equal_s_string_string.en k]
def fn (k : Nat) (x : (LL × LL × U1)) (S : LL) (K : Kt R (Bool × U1)) : Option R :=
 smithyardref6_CopyRules.fn k (x.1,()) S fun r1 S => slices_Clone_s_string_string_c.fn k x.2 S fun r2 S => steps_Suspects.fn k x S fun r3 S => smithyardref6_Suspects.fn k (r1.1,r2) S fun r4 S => slices_Equal_s_string_string.fn k (r3.1,r4.1,()) S fun r5 S => ifB r5.1 (ifB (r3.2.1 == r4.2.1) (smithyardref6_SameRules.fn k (x.1,r1) S fun r6 S => ifB r6.1 (slices_Equal_s_string_string.fn k (x.2.1,r2) S fun r7 S => ifB r7.1 (smithyardlaw6_awake.fn k (()) S K) (K (false,()) S)) (K (false,()) S)) (K (false,()) S)) (K (false,()) S)
def en (k : Nat) : Ent PG R := mkFn T_ok Tryz.func5 ps rs (C k) (.seq .auto (.seq .auto (.seq (.own [(3,1)]) (.seq (.own [(3,1)]) (.seq .auto (.mask mr .auto)))))) ⟨tr,tr,tr,tr,tr,tr⟩ (fn k)
end G.smithyardlaw6_StepsSuspectsMatchSpec
end Go.Lm
end
namespace Go.Lm
section
variable {R : Type}
@[simp] theorem ifB_true (a b : Option R) : ifB true a b = a := rfl
@[simp] theorem ifB_false (a b : Option R) : ifB false a b = b := rfl
theorem ifB_pos {p : Prop} [Decidable p] (h : p) (a b : Option R) : ifB (decide p) a b = a := by simp [h]
theorem ifB_neg {p : Prop} [Decidable p] (h : ¬ p) (a b : Option R) : ifB (decide p) a b = b := by simp [h]
theorem rounds_succ {α : Type} (b : (α → List LV → Option R) → α → List LV → Option R) (n : Nat) (x : α) (S : List LV) : rounds b (n + 1) x S = b (rounds b n) x S := rfl
def scan {β : Type} (step : Nat → Option β) (fin : β) : Nat → Nat → β
 | 0,_ => fin
 | d + 1,i => match step i with
  | some r => r
  | none => scan step fin d (i + 1)
theorem rounds_scan {α : Type} {b : (α → List LV → Option R) → α → List LV → Option R} (x : Nat → α) (S : Nat → List LV) (n : Nat) (step : Nat → Option (Option R)) (fin : Option R)
  (hb : ∀ rec i,i < n → b rec (x i) (S i) = match step i with | some r => r | none => rec (x (i + 1)) (S (i + 1))) (he : ∀ rec,b rec (x n) (S n) = fin) :
  ∀ (d i fuel : Nat),i + d = n → d < fuel → rounds b fuel (x i) (S i) = scan step fin d i
 | 0,i,fuel,hi,hf => by
  obtain ⟨m,rfl⟩ : ∃ m,fuel = m + 1 := ⟨fuel - 1,by omega⟩
  have : i = n := by omega
  subst this
  rw [rounds_succ,he]; rfl
 | d + 1,i,fuel,hi,hf => by
  obtain ⟨m,rfl⟩ : ∃ m,fuel = m + 1 := ⟨fuel - 1,by omega⟩
  rw [rounds_succ,hb _ i (by omega)]
  cases h : step i with
  | some r => simp only [scan,h]
  | none => simp only [scan,h]; exact rounds_scan x S n step fin hb he d (i + 1) m (by omega) (by omega)
theorem rounds_scan0 {α : Type} {b : (α → List LV → Option R) → α → List LV → Option R} (x : Nat → α) (S : List LV) (n k : Nat) (step : Nat → Option (Option R)) (fin : Option R)
  (hb : ∀ rec i,i < n → b rec (x i) S = match step i with | some r => r | none => rec (x (i + 1)) S) (he : ∀ rec,b rec (x n) S = fin) (hk : n < k) : rounds b k (x 0) S = scan step fin n 0 :=
 rounds_scan x (fun _ => S) n step fin hb he n 0 k (by omega) hk
theorem scan_congr {β : Type} {step step' : Nat → Option β} {fin fin' : β} : ∀ (d i : Nat),(∀ j,i ≤ j → j < i + d → step j = step' j) → fin = fin' → scan step fin d i = scan step' fin' d i
 | 0,_,_,h => h
 | d + 1,i,h,hf => by
  simp only [scan]
  rw [h i (Nat.le_refl _) (by omega),scan_congr d (i + 1) (fun j h1 h2 => h j (by omega) (by omega)) hf]
theorem scan_map {β γ : Type} (f : β → γ) {step : Nat → Option β} {fin : β} : ∀ (d i : Nat),scan (fun j => (step j).map f) (f fin) d i = f (scan step fin d i)
 | 0,_ => rfl
 | d + 1,i => by
  simp only [scan]
  cases h : step i with
  | some r => rfl
  | none => simp only [Option.map_none]; exact scan_map f d (i + 1)
theorem scan_none {β : Type} {step : Nat → Option β} {fin : β} : ∀ (d i : Nat),(∀ j,i ≤ j → j < i + d → step j = none) → scan step fin d i = fin
 | 0,_,_ => rfl
 | d + 1,i,h => by
  simp only [scan]
  rw [h i (Nat.le_refl _) (by omega)]
  exact scan_none d (i + 1) (fun j h1 h2 => h j (by omega) (by omega))
theorem wrap_id {n : Int} (h0 : -9223372036854775808 ≤ n) (h : n ≤ 9223372036854775807) : IntKind.wrap .i64 n = n := by
 rw [IntKind.wrap_i64]; omega
theorem wrap_succ {i : Nat} (h : i < 9223372036854775807) : IntKind.wrap .i64 ((i : Int) + 1) = ((i + 1 : Nat) : Int) := by
 rw [wrap_id (by omega) (by omega)]; omega
theorem wrap_pred {i : Nat} (h0 : 0 < i) (h : i < 9223372036854775807) : IntKind.wrap .i64 ((i : Int) - 1) = ((i - 1 : Nat) : Int) := by
 rw [wrap_id (by omega) (by omega)]; omega
theorem idxL_nat {xs : List LV} {i : Nat} (h : i < xs.length) (K : LV → Option R) : idxL xs (i : Int) K = K (xs.getD i .any) := by
 unfold idxL
 rw [ifB_pos ⟨by omega,by omega⟩,Int.toNat_natCast]
theorem idxStr_nat {s : ByteArray} {i : Nat} (h : i < s.size) (K : Int → Option R) : idxStr s (i : Int) K = K (bt s i) := by
 unfold idxStr
 rw [ifB_pos ⟨by omega,by omega⟩]
theorem lt_nat (i n : Nat) : decide ((i : Int) < (n : Int)) = decide (i < n) := by simp
theorem baList (s : ByteArray) : s.toList = s.data.toList := by
 rw [ByteArray.toList_eq]
theorem strEq_iff (a b : ByteArray) : strEq a b = true ↔ a = b := by
 unfold strEq
 rw [beq_iff_eq,baList,baList]
 constructor
 ·intro h
  have : a.data = b.data := Array.ext' h
  cases a; cases b; simp_all
 ·intro h; rw [h]
theorem strEq_dec (a b : ByteArray) : strEq a b = decide (a = b) := by
 rw [Bool.eq_iff_iff,strEq_iff]; simp
theorem asStr_str (s : ByteArray) (K : ByteArray → Option R) : asStr (.str s) K = K s := rfl
theorem asBool_bool (b : Bool) (K : Bool → Option R) : asBool (.bool b) K = K b := rfl
theorem asInt_int (k : IntKind) (n : Int) (K : Int → Option R) : asInt k (.int k n) K = K n := by simp [asInt]
theorem asSl_sl (z : Nat) (xs : List LV) (K : List LV → Option R) : asSl z (.sl z xs) K = K xs := by simp [asSl]
theorem asSl_own (e z : Nat) (xs : List LV) (K : List LV → Option R) : asSl z (.own e z xs) K = K xs := by simp [asSl]
theorem asSl_nil (z : Nat) (K : List LV → Option R) : asSl z .nilsl K = K [] := rfl
theorem app_le {b : Nat} {ys xs : List LV} {K : List LV → Option R} (h : (ys.length + xs.length) * b ≤ 140737488355328) (h2 : ys.length + xs.length ≤ 9223372036854775807) : app b ys xs K = K (ys ++ xs) := by
 unfold app
 rw [ifB_pos ⟨h,h2⟩]
theorem slStr_nat {s : ByteArray} {i : Nat} (h : i ≤ s.size) (K : ByteArray → Option R) : slStr s 0 (i : Int) K = K (s.extract 0 i) := by
 unfold slStr
 rw [ifB_pos ⟨by omega,by omega,by omega⟩]; rfl
theorem bt_nat {s : ByteArray} {i : Nat} (h : i < s.size) : bt s i = ((s[i]'h).toNat : Int) := by
 unfold bt
 rw [Int.toNat_natCast,dif_pos h]
theorem bt_lt (s : ByteArray) (i : Int) : 0 ≤ bt s i ∧ bt s i < 256 := by
 unfold bt
 split
 ·rename_i h
  have := (s[i.toNat]'h).toNat_lt
  omega
 ·omega
end
end Go.Lm
set_option maxRecDepth 100000
namespace Go.Lm
section
variable {R : Type}
def Many (k : Nat) : Prop := 281474976710656 ≤ k
def partB (c : Int) : Bool := (decide (c ≥ 97) && decide (c ≤ 122)) || ((decide (c ≥ 65) && decide (c ≤ 90)) || ((decide (c ≥ 48) && decide (c ≤ 57)) || ((c == 46) || ((c == 95) || ((c == 45) || (c == 43))))))
theorem ref_partByte (k : Nat) (c : Int) (S : List LV) (K : Bool × Unit → List LV → Option R) : G.smithyardref1_partByte.fn k (c,()) S K = K (partB c,()) S := by
 unfold G.smithyardref1_partByte.fn partB
 dsimp only
 generalize decide (c ≥ 97) = b1
 generalize decide (c ≤ 122) = b2
 generalize decide (c ≥ 65) = b3
 generalize decide (c ≤ 90) = b4
 generalize decide (c ≥ 48) = b5
 generalize decide (c ≤ 57) = b6
 generalize (c == 46) = b7
 generalize (c == 95) = b8
 generalize (c == 45) = b9
 generalize (c == 43) = b10
 cases b1 <;> cases b3 <;> cases b5 <;> (try cases b2) <;> (try cases b4) <;> (try cases b6) <;> (try cases b7) <;> (try cases b8) <;> (try cases b9) <;> rfl
theorem indexByte_part (c : Int) (h0 : 0 ≤ c) (h1 : c < 256) : decide (Lib.indexByte [46,95,45,43] c.toNat.toUInt8 ≥ 0) = ((c == 46) || ((c == 95) || ((c == 45) || (c == 43)))) := by
 have key : ∀ n : Fin 256,decide (Lib.indexByte [46,95,45,43] (n.val.toUInt8) ≥ 0) = (((n.val : Int) == 46) || (((n.val : Int) == 95) || (((n.val : Int) == 45) || ((n.val : Int) == 43)))) := by decide +kernel
 have := key ⟨c.toNat,by omega⟩
 rw [this]
 have e : ((c.toNat : Nat) : Int) = c := by omega
 simp only [e]
theorem prog_inPart (k : Nat) (c : Int) (h0 : 0 ≤ c) (h1 : c < 256) (S : List LV) (K : Bool × Unit → List LV → Option R) : G.blob_inPart.fn k (c,()) S K = K (partB c,()) S := by
 have hi : ∀ K' : Int × Unit → List LV → Option R,G.strings_IndexByte.fn k ((bs [46,95,45,43]),c,()) S K' = K' (Lib.indexByte [46,95,45,43] c.toNat.toUInt8,()) S := fun K' => rfl
 unfold G.blob_inPart.fn partB
 dsimp only
 simp only [hi]
 rw [indexByte_part c h0 h1]
 generalize ((c == 46) || ((c == 95) || ((c == 45) || (c == 43)))) = b7
 generalize decide (c ≥ 97) = b1
 generalize decide (c ≤ 122) = b2
 generalize decide (c ≥ 65) = b3
 generalize decide (c ≤ 90) = b4
 generalize decide (c ≥ 48) = b5
 generalize decide (c ≤ 57) = b6
 cases b1 <;> cases b3 <;> cases b5 <;> (try cases b2) <;> (try cases b4) <;> (try cases b6) <;> cases b7 <;> rfl
def isPartS (s : ByteArray) : Bool := scan (fun i => match partB (bt s i) with | true => none | false => some false) (!(strEq s (bs [])) && (!(strEq s (bs [46])) && !(strEq s (bs [46,46])))) s.size 0
theorem fin_part (s : ByteArray) (S : List LV) (K : Bool × Unit → List LV → Option R) : ifB (!(strEq s (bs []))) (ifB (!(strEq s (bs [46]))) (K ((!(strEq s (bs [46,46]))),()) S) (K (false,()) S)) (K (false,()) S) = K (!(strEq s (bs [])) && (!(strEq s (bs [46])) && !(strEq s (bs [46,46]))),()) S := by
 generalize strEq s (bs []) = a
 generalize strEq s (bs [46]) = b
 cases a <;> cases b <;> rfl
theorem ref_isPart {k : Nat} (hk : Many k) (s : ByteArray) (hs : s.size ≤ 140737488355328) (S : List LV) (K : Bool × Unit → List LV → Option R) : G.smithyardref1_isPart.fn k (s,()) S K = K (isPartS s,()) S := by
 unfold Many at hk
 unfold G.smithyardref1_isPart.fn isPartS
 refine Eq.trans (rounds_scan0 (fun i => (s,(i : Int),())) S s.size k (fun i => match partB (bt s i) with | true => none | false => some (K (false,()) S)) (K (!(strEq s (bs [])) && (!(strEq s (bs [46])) && !(strEq s (bs [46,46]))),()) S) (fun rec i hi => ?_) (fun rec => ?_) (by omega)) ?_
 ·unfold G.smithyardref1_isPart.b0
  dsimp only
  rw [lt_nat,ifB_pos hi,idxStr_nat hi,ref_partByte,wrap_succ (by omega)]
  cases partB (bt s i) <;> rfl
 ·unfold G.smithyardref1_isPart.b0
  dsimp only
  rw [lt_nat,ifB_neg (Nat.lt_irrefl _),fin_part]
 ·rw [← scan_map (fun b => K (b,()) S)]
  refine scan_congr _ _ (fun j _ _ => ?_) rfl
  cases partB (bt s j) <;> rfl
theorem prog_isPart {k : Nat} (hk : Many k) (s : ByteArray) (hs : s.size ≤ 140737488355328) (S : List LV) (K : Bool × Unit → List LV → Option R) : G.blob_isPart.fn k (s,()) S K = K (isPartS s,()) S := by
 unfold Many at hk
 unfold G.blob_isPart.fn isPartS
 refine Eq.trans (rounds_scan0 (fun i => (s,(s.size : Int),(i : Int),())) S s.size k (fun i => match partB (bt s i) with | true => none | false => some (K (false,()) S)) (K (!(strEq s (bs [])) && (!(strEq s (bs [46])) && !(strEq s (bs [46,46]))),()) S) (fun rec i hi => ?_) (fun rec => ?_) (by omega)) ?_
 ·unfold G.blob_isPart.b0
  dsimp only
  have hb := bt_lt s i
  rw [lt_nat,ifB_pos hi,idxStr_nat hi,prog_inPart k _ hb.1 hb.2,wrap_succ (by omega)]
  cases partB (bt s i) <;> rfl
 ·unfold G.blob_isPart.b0
  dsimp only
  rw [lt_nat,ifB_neg (Nat.lt_irrefl _),fin_part]
 ·rw [← scan_map (fun b => K (b,()) S)]
  refine scan_congr _ _ (fun j _ _ => ?_) rfl
  cases partB (bt s j) <;> rfl
def partsOf (s : ByteArray) : List ByteArray := Lib.splitB (bs [47]) 0 (Lib.countB s (bs [47])) s
theorem split_at (k : Nat) (s : ByteArray) (hs : s.size < 4294967281) (S : List LV) (K : List LV × Unit → List LV → Option R) : G.strings_Split.fn k (s,(bs [47]),()) S K = K ((partsOf s).map .str,()) S := by
 unfold G.strings_Split.fn H.genSplit.fn handF splitF
 dsimp only
 rw [decide_eq_true ⟨rfl,rfl,rfl,hs⟩]
 rfl
theorem splitB_sizes (sep : ByteArray) : ∀ (n : Nat) (s : ByteArray) (p : ByteArray),p ∈ Lib.splitB sep 0 n s → p.size ≤ s.size
 | 0,s,p,h => by
  rw [Lib.splitB_zero] at h
  simp at h; subst h; exact Nat.le_refl _
 | n + 1,s,p,h => by
  unfold Lib.splitB at h
  split at h
  ·simp at h; subst h; exact Nat.le_refl _
  ·rcases List.mem_cons.1 h with rfl | h
   ·simp only [ByteArray.size_extract]; omega
   ·refine Nat.le_trans (splitB_sizes sep n _ p h) ?_
    simp only [ByteArray.size_extract]; omega
theorem splitB_len (sep : ByteArray) : ∀ (n : Nat) (s : ByteArray),(Lib.splitB sep 0 n s).length ≤ n + 1
 | 0,s => by rw [Lib.splitB_zero]; simp
 | n + 1,s => by
  unfold Lib.splitB
  split
  ·simp
  ·have := splitB_len sep n (s.extract ((Lib.indexB s sep).toNat + sep.size) s.size)
   simp only [List.length_cons]; omega
def isPathS (s : ByteArray) : Bool := decide (1 ≤ s.size) && (decide (s.size ≤ 200) && (partsOf s).all isPartS)
theorem all_scan (l : List ByteArray) : l.all isPartS = scan (fun i => match isPartS (l.getD i (bs [])) with | true => none | false => some false) true l.length 0 := by
 have : ∀ (d i : Nat),i + d = l.length → (l.drop i).all isPartS = scan (fun i => match isPartS (l.getD i (bs [])) with | true => none | false => some false) true d i := by
  intro d
  induction d with
  | zero => intro i hi; rw [List.drop_eq_nil_of_le (by omega)]; rfl
  | succ d ih =>
   intro i hi
   have hlt : i < l.length := by omega
   rw [List.drop_eq_getElem_cons hlt,List.all_cons]
   simp only [scan]
   rw [List.getD_eq_getElem?_getD,List.getElem?_eq_getElem hlt,Option.getD_some]
   cases isPartS l[i] with
   | true => simp only [Bool.true_and]; exact ih (i + 1) (by omega)
   | false => rfl
 simpa using this l.length 0 (by omega)
theorem map_str_get (l : List ByteArray) (i : Nat) (h : i < l.length) : (l.map LV.str).getD i .any = .str (l.getD i (bs [])) := by
 simp [List.getD_eq_getElem?_getD,h]
theorem partsOf_len (s : ByteArray) (hs : s.size ≤ 200) : (partsOf s).length ≤ 201 + 1 := by
 have h1 := splitB_len (bs [47]) (Lib.countB s (bs [47])) s
 have h2 := Lib.countB_le (bs [47]) (Nat.le_refl 1) s.size s (Nat.le_refl _)
 unfold partsOf
 omega
theorem partsOf_size (s : ByteArray) (i : Nat) (h : i < (partsOf s).length) : ((partsOf s).getD i (bs [])).size ≤ s.size := by
 refine splitB_sizes (bs [47]) (Lib.countB s (bs [47])) s _ ?_
 rw [List.getD_eq_getElem?_getD,List.getElem?_eq_getElem h]
 exact List.getElem_mem h
theorem ref_IsPath {k : Nat} (hk : Many k) (s : ByteArray) (S : List LV) (K : Bool × Unit → List LV → Option R) : G.smithyardref1_IsPath.fn k (s,()) S K = K (isPathS s,()) S := by
 have hk' := hk
 unfold Many at hk'
 unfold G.smithyardref1_IsPath.fn isPathS G.smithyardref1_within.fn
 dsimp only
 by_cases h1 : 1 ≤ s.size
 ·by_cases h2 : s.size ≤ 200
  ·rw [ifB_pos (show (s.size : Int) ≥ 1 by omega),decide_eq_true (show (s.size : Int) ≤ 200 by omega),decide_eq_true h1,decide_eq_true h2]
   simp only [Bool.not_true,ifB_false,Bool.true_and]
   have hl := partsOf_len s h2
   rw [split_at k s (by omega)]
   dsimp only
   refine Eq.trans (rounds_scan0 (fun i => ((partsOf s).map LV.str,(i : Int),())) S (partsOf s).length k (fun i => match isPartS ((partsOf s).getD i (bs [])) with | true => none | false => some (K (false,()) S)) (K (true,()) S) (fun rec i hi => ?_) (fun rec => ?_) (by omega)) ?_
   ·unfold G.smithyardref1_IsPath.b0
    dsimp only
    have hsz := partsOf_size s i hi
    rw [List.length_map,lt_nat,ifB_pos hi,idxL_nat (by simpa using hi),map_str_get _ _ hi]
    show asStr (.str _) _ = _
    rw [asStr_str,ref_isPart hk _ (by omega),wrap_succ (by omega)]
    cases isPartS ((partsOf s).getD i (bs [])) <;> rfl
   ·unfold G.smithyardref1_IsPath.b0
    dsimp only
    rw [List.length_map,lt_nat,ifB_neg (Nat.lt_irrefl _)]
   ·rw [all_scan,← scan_map (fun b => K (b,()) S)]
    refine scan_congr _ _ (fun j _ _ => ?_) rfl
    cases isPartS ((partsOf s).getD j (bs [])) <;> rfl
  ·rw [ifB_pos (show (s.size : Int) ≥ 1 by omega),decide_eq_false (show ¬ (s.size : Int) ≤ 200 by omega),decide_eq_false h2]
   simp
 ·rw [ifB_neg (show ¬ (s.size : Int) ≥ 1 by omega),decide_eq_false h1]
  simp
theorem prog_IsPath {k : Nat} (hk : Many k) (s : ByteArray) (S : List LV) (K : Bool × Unit → List LV → Option R) : G.blob_IsPath.fn k (s,()) S K = K (isPathS s,()) S := by
 have hk' := hk
 unfold Many at hk'
 unfold G.blob_IsPath.fn isPathS
 dsimp only
 by_cases h1 : 1 ≤ s.size
 ·rw [ifB_neg (show ¬ (s.size : Int) < 1 by omega),decide_eq_true h1]
  by_cases h2 : s.size ≤ 200
  ·rw [ifB_neg (show ¬ (s.size : Int) > 200 by omega),decide_eq_true h2]
   simp only [Bool.true_and]
   have hl := partsOf_len s h2
   rw [split_at k s (by omega)]
   dsimp only
   rw [List.length_map]
   refine Eq.trans (rounds_scan0 (fun i => ((partsOf s).map LV.str,((partsOf s).length : Int),(i : Int),())) S (partsOf s).length k (fun i => match isPartS ((partsOf s).getD i (bs [])) with | true => none | false => some (K (false,()) S)) (K (true,()) S) (fun rec i hi => ?_) (fun rec => ?_) (by omega)) ?_
   ·unfold G.blob_IsPath.b0
    dsimp only
    have hsz := partsOf_size s i hi
    rw [lt_nat,ifB_pos hi,idxL_nat (by simpa using hi),map_str_get _ _ hi]
    show asStr (.str _) _ = _
    rw [asStr_str,prog_isPart hk _ (by omega),wrap_succ (by omega)]
    cases isPartS ((partsOf s).getD i (bs [])) <;> rfl
   ·unfold G.blob_IsPath.b0
    dsimp only
    rw [lt_nat,ifB_neg (Nat.lt_irrefl _)]
   ·rw [all_scan,← scan_map (fun b => K (b,()) S)]
    refine scan_congr _ _ (fun j _ _ => ?_) rfl
    cases isPartS ((partsOf s).getD j (bs [])) <;> rfl
  ·rw [ifB_pos (show (s.size : Int) > 200 by omega),decide_eq_false h2]
   simp
 ·rw [ifB_pos (show (s.size : Int) < 1 by omega),decide_eq_false h1]
  simp
end
end Go.Lm
