/- Parts of the proof: LmX. -/
import Derived.Test.YtefkkflmiabfeaaGreatDoorLc
set_option linter.unusedVariables false
set_option linter.unusedSimpArgs false
set_option maxRecDepth 100000
set_option linter.unusedVariables false
noncomputable section
namespace Go.Lm
open Go.Proofs
variable {R : Type}
namespace G.slices_Clone_s_string_string
abbrev ps : Mk := sL 1 []
abbrev rs : Mk := sO 9 1 []
abbrev mr : Mk := n2 (sO 9 1 (n5 []))
def C (k : Nat) : List (Ent PG R) := []
def fn (k : Nat) (x : (LL × U1)) (S : LL) (K : Kt R (LL × U1)) : Option R :=
 isNil (.sl 1 x.1) fun b1 => ifB (b1 == true) (K ([],()) S) (app 16 [] x.1 fun l2 => K (l2,()) S)
def en (k : Nat) : Ent PG R := mkFn T_ok Tryz.func17 ps rs (C k) (.seq .auto (.seq (.seq .auto (.cond (.seq .auto (.mask mr .auto)) .auto)) (.seq .auto (.mask mr .auto)))) ⟨tr,⟨tr,⟨tr,tr⟩,tr⟩,tr,tr⟩ (fn k)
def anC : An R := .seq .auto (.seq (.seq .auto (.cond (.seq .auto (.mask mr .auto)) .auto)) (.seq .auto (.mask mr .auto)))
theorem body : HSound PG 17 (lbody T (entC (C (R := R) 0)) anC Tryz.f17) :=
 lbody_ok T_ok (entC_ok _) (fun c hc => by
  have : c = cd Tryz.f17 := by
   have e : Tryz.f17.body = some (cd Tryz.f17) := by kernel_rfl
   rw [e] at hc; cases hc; rfl
  subst this
  exact ⟨tr,⟨tr,⟨tr,tr⟩,tr⟩,tr,tr⟩) Tryz.func17 (enters_ok Tryz.func17 (by kernel_rfl) (by kernel_rfl))
end G.slices_Clone_s_string_string
namespace G.slices_Clone_s_string_string_c
abbrev ps : Mk := [some (.lf (.sl 1))]
abbrev rs : Mk := [some (.lf (.own 9 1))]
def fn (_k : Nat) (x : LL × U1) (S : LL) (K : Kt R (LL × U1)) : Option R := handF ps rs (cloneF 16) x S K
theorem ok (k : Nat) : HSound PG 17 (hT (R := R) ps fun x S K => fn k x S fun r S => K (resE rs r) S) :=
 hand_ok (enters_ok Tryz.func17 (by kernel_rfl) (by kernel_rfl)) (ps := ps) (rs := rs) (g := cloneF 16) fun x r S hr => by
  obtain ⟨xs,u⟩ := x
  obtain ⟨rfl,hd⟩ := cloneF_some hr
  refine LCalls.nilCases (fun h => ?_) ?_
  ·have h : xs = [] := h
   subst h
   exact slices_Clone_s_string_string.body.calls (by kernel_rfl)
  ·exact slices_Clone_s_string_string.body.calls (Eq.trans (b := app 16 [] xs fun l => some (.own 9 1 l,S)) (by kernel_rfl) (by rw [app_at hd]; rfl))
def en (k : Nat) : Ent PG R := ⟨17,_,ok k⟩
end G.slices_Clone_s_string_string_c
namespace G.slices_Clone_s_api_Var_api_Var
abbrev ps : Mk := sL 2 []
abbrev rs : Mk := sO 107 2 []
abbrev mr : Mk := n2 (sO 107 2 (n5 []))
def C (k : Nat) : List (Ent PG R) := []
def fn (k : Nat) (x : (LL × U1)) (S : LL) (K : Kt R (LL × U1)) : Option R :=
 isNil (.sl 2 x.1) fun b1 => ifB (b1 == true) (K ([],()) S) (app 32 [] x.1 fun l2 => K (l2,()) S)
def en (k : Nat) : Ent PG R := mkFn T_ok Tryz.func59 ps rs (C k) (.seq .auto (.seq (.seq .auto (.cond (.seq .auto (.mask mr .auto)) .auto)) (.seq .auto (.mask mr .auto)))) ⟨tr,⟨tr,⟨tr,tr⟩,tr⟩,tr,tr⟩ (fn k)
def anC : An R := .seq .auto (.seq (.seq .auto (.cond (.seq .auto (.mask mr .auto)) .auto)) (.seq .auto (.mask mr .auto)))
theorem body : HSound PG 59 (lbody T (entC (C (R := R) 0)) anC Tryz.f59) :=
 lbody_ok T_ok (entC_ok _) (fun c hc => by
  have : c = cd Tryz.f59 := by
   have e : Tryz.f59.body = some (cd Tryz.f59) := by kernel_rfl
   rw [e] at hc; cases hc; rfl
  subst this
  exact ⟨tr,⟨tr,⟨tr,tr⟩,tr⟩,tr,tr⟩) Tryz.func59 (enters_ok Tryz.func59 (by kernel_rfl) (by kernel_rfl))
end G.slices_Clone_s_api_Var_api_Var
namespace G.slices_Clone_s_api_Var_api_Var_c
abbrev ps : Mk := [some (.lf (.sl 2))]
abbrev rs : Mk := [some (.lf (.own 107 2))]
def fn (_k : Nat) (x : LL × U1) (S : LL) (K : Kt R (LL × U1)) : Option R := handF ps rs (cloneF 32) x S K
theorem ok (k : Nat) : HSound PG 59 (hT (R := R) ps fun x S K => fn k x S fun r S => K (resE rs r) S) :=
 hand_ok (enters_ok Tryz.func59 (by kernel_rfl) (by kernel_rfl)) (ps := ps) (rs := rs) (g := cloneF 32) fun x r S hr => by
  obtain ⟨xs,u⟩ := x
  obtain ⟨rfl,hd⟩ := cloneF_some hr
  refine LCalls.nilCases (fun h => ?_) ?_
  ·have h : xs = [] := h
   subst h
   exact slices_Clone_s_api_Var_api_Var.body.calls (by kernel_rfl)
  ·exact slices_Clone_s_api_Var_api_Var.body.calls (Eq.trans (b := app 32 [] xs fun l => some (.own 107 2 l,S)) (by kernel_rfl) (by rw [app_at hd]; rfl))
def en (k : Nat) : Ent PG R := ⟨59,_,ok k⟩
end G.slices_Clone_s_api_Var_api_Var_c
namespace G.smithyardref5_CopyAction
abbrev ps : Mk := sA [.str,.sl 1,.sl 2,.sl 1,.sl 2,jI] []
abbrev rs : Mk := sA [.str,.sl 1,.sl 2,.sl 1,.sl 2,jI] []
abbrev e0 : Mk := n1 (sX [.str,.sl 1,.sl 2,.sl 1,.sl 2,jI] (sX [.str,.own 23 1,.own 107 2,.own 9 1,.own 107 2,jI] (sO 23 1 (nM 32 []))))
abbrev m0 : Mk := n1 (sX [.str,.sl 1,.sl 2,.sl 1,.sl 2,jI] (sX [.str,.own 23 1,.own 107 2,.own 9 1,.own 107 2,jI] (sO 23 1 (sI (nM 31 [])))))
abbrev mr : Mk := n2 (sX [.str,.sl 1,.sl 2,.sl 1,.sl 2,jI] (nM 33 []))
abbrev T2 := BA × LL × LL × LL × LL × Int × U1
abbrev T1 := T2 × U1
abbrev T0 := T2 × T2 × LL × Int × U1
def C (k : Nat) : List (Ent PG R) := [slices_Clone_s_string_string_c.en k,slices_Clone_s_api_Var_api_Var_c.en k]
def b0 (k : Nat) (J0 : Kt R (T2 × T2 × LL × U1)) (rec : Kt R T0) (x : T0) (S : LL) : Option R :=
 ifB (decide (x.2.2.2.1 < (x.1.2.1.length : Int))) (idxL x.1.2.1 x.2.2.2.1 fun v1 => asSl 1 (leaf v1 0) fun l2 => slices_Clone_s_string_string_c.fn k (l2,()) S fun r3 S => app 24 x.2.2.1 [(.sl 1 r3.1)] fun l4 => rec (x.1,x.2.1,l4,(IntKind.wrap .i64 (x.2.2.2.1 + 1)),()) S) (J0 (x.1,x.2.1,x.2.2.1,()) S)
def L0 (k : Nat) : Pc PG R (.loop (su Tryz.f28 75)) := mkLoop T_ok (C k) _ m0 k (.seq (.seq .auto (.cond .auto (.mask e0 .auto))) (.seq (.block (.own [(0,1)])) .auto)) ⟨⟨tr,tr,tr⟩,tr,tr⟩ (fun K => b0 k (kX K 0 e0))
def fn (k : Nat) (x : T1) (S : LL) (K : Kt R T1) : Option R :=
 rounds (b0 k (fun o5 S => slices_Clone_s_api_Var_api_Var_c.fn k (o5.1.2.2.1,()) S fun r6 S => slices_Clone_s_api_Var_api_Var_c.fn k (o5.1.2.2.2.2.1,()) S fun r7 S => slices_Clone_s_string_string_c.fn k (o5.1.2.2.2.1,()) S fun r8 S => K ((o5.1.1,o5.2.2.1,r6.1,r8.1,r7.1,o5.1.2.2.2.2.2),()) S)) k (x.1,((bs []),[],[],[],[],0,()),[],0,()) S
def en (k : Nat) : Ent PG R := mkFn T_ok Tryz.func28 ps rs (C k) (.seq .auto (.seq .auto (.seq (.seq .auto (.block (.piece (L0 k).h))) (.seq (.drawn [] [0,1,2,4,5,7,8,10,3,6,9,11,12,13,14,15,16,17]) (.seq .auto (.mask mr .auto)))))) ⟨tr,tr,⟨tr,(L0 k).ok⟩,(drawn_an (by kernel_rfl)),tr,tr⟩ (fn k)
end G.smithyardref5_CopyAction
namespace G.smithyardref6_CopyRules
abbrev ps : Mk := sL 8 []
abbrev rs : Mk := sO 53 8 []
abbrev c0 : Mk := sL 8 (n2 (sO 53 8 (sI (nM 28 []))))
abbrev e0 : Mk := n3 (sO 53 8 (nM 29 []))
abbrev mr : Mk := n2 (sO 53 8 (nM 30 []))
abbrev T0 := LL × LL × Int × U1
def C (k : Nat) : List (Ent PG R) := [slices_Clone_s_string_string_c.en k,smithyardref5_CopyAction.en k]
def q0 (k : Nat) (Jnrm : Kt R T0)  (x : T0) (S : LL) : Option R :=
 Jnrm (x.1,x.2.1,(IntKind.wrap .i64 (x.2.2.1 + 1)),()) S
def Q0 (k : Nat) : Pc PG R (su Tryz.f11 459) := mkEnd T_ok (C k) _ c0 c0 (.auto) tr (fun x S K => q0 k (kN K c0) x S)
def b0 (k : Nat) (J0 : Kt R (LL × U1)) (rec : Kt R T0) (x : T0) (S : LL) : Option R :=
 ifB (decide (x.2.2.1 < (x.1.length : Int))) (idxL x.1 x.2.2.1 fun v1 => asStr (leaf v1 0) fun s2 => idxL x.1 x.2.2.1 fun v3 => mat 8 v3 fun c4 => asStr (c4.getD 1 .any) fun s5 => asSl 1 (c4.getD 2 .any) fun l6 => asSl 2 (c4.getD 3 .any) fun l7 => asSl 1 (c4.getD 4 .any) fun l8 => asSl 2 (c4.getD 5 .any) fun l9 => asInt .i64 (c4.getD 6 .any) fun n10 => idxL x.1 x.2.2.1 fun v11 => asSl 1 (leaf v11 7) fun l12 => smithyardref5_CopyAction.fn k ((s5,l6,l7,l8,l9,n10,()),()) S fun r13 S => slices_Clone_s_string_string_c.fn k (l12,()) S fun r14 S => app 160 x.2.1 [(.agg [(.str s2),(.str r13.1.1),(.sl 1 r13.1.2.1),(.sl 2 r13.1.2.2.1),(.sl 1 r13.1.2.2.2.1),(.sl 2 r13.1.2.2.2.2.1),(.int .i64 r13.1.2.2.2.2.2.1),(.sl 1 r14.1)])] fun l15 => q0 k rec (x.1,l15,x.2.2) S) (J0 (x.2.1,()) S)
def L0 (k : Nat) : Pc PG R (.loop (su Tryz.f11 75)) := mkLoop T_ok (C k) _ c0 k (.seq (.seq .auto (.cond .auto (.mask e0 .auto))) (.seq (.block (.drawn [(0,1)] [0,1,2,3,4,5,6,7,8,9,10,12,13,14,15,16,11,17,18,19,20,21])) (.piece (Q0 k).h))) ⟨⟨tr,tr,tr⟩,(drawn_an (by kernel_rfl)),(Q0 k).ok⟩ (fun K => b0 k (kX K 0 e0))
def fn (k : Nat) (x : (LL × U1)) (S : LL) (K : Kt R (LL × U1)) : Option R :=
 rounds (b0 k K) k (x.1,[],0,()) S
def en (k : Nat) : Ent PG R := mkFn T_ok Tryz.func11 ps rs (C k) (.seq .auto (.seq .auto (.seq (.seq .auto (.block (.piece (L0 k).h))) (.seq (.own [(0,1)]) (.mask mr .auto))))) ⟨tr,tr,⟨tr,(L0 k).ok⟩,tr,tr⟩ (fn k)
end G.smithyardref6_CopyRules
namespace G.strings_Split
abbrev ps : Mk := sS (sS [])
abbrev rs : Mk := sL 1 []
abbrev mr : Mk := n4 (sL 1 (n3 []))
def C (k : Nat) : List (Ent PG R) := [⟨99,H.genSplit.h k,H.genSplit.ok k⟩]
def fn (k : Nat) (x : (BA × BA × U1)) (S : LL) (K : Kt R (LL × U1)) : Option R :=
 H.genSplit.fn k (x.1,x.2.1,0,(-1 : Int),()) S K
def en (k : Nat) : Ent PG R := mkFn T_ok Tryz.func65 ps rs (C k) (.seq .auto (.seq .auto (.mask mr .auto))) ⟨tr,tr,tr⟩ (fn k)
end G.strings_Split
namespace G.strings_IndexByte
abbrev ps : Mk := sS (sh (.lf (.int .u8)) [])
abbrev rs : Mk := sI []
abbrev mr : Mk := n4 (sI (n3 []))
def C (k : Nat) : List (Ent PG R) := [⟨185,H.IndexByte.h k,H.IndexByte.ok k⟩]
def fn (k : Nat) (x : (BA × Int × U1)) (S : LL) (K : Kt R (Int × U1)) : Option R :=
 H.IndexByte.fn k x S K
def en (k : Nat) : Ent PG R := mkFn T_ok Tryz.func134 ps rs (C k) (.seq .auto (.seq .auto (.mask mr .auto))) ⟨tr,tr,tr⟩ (fn k)
end G.strings_IndexByte
namespace G.blob_inPart
abbrev ps : Mk := sh (.lf (.int .u8)) []
abbrev rs : Mk := sB []
abbrev mr : Mk := n2 (sB (nM 27 []))
def C (k : Nat) : List (Ent PG R) := [strings_IndexByte.en k]
def fn (k : Nat) (x : (Int × U1)) (S : LL) (K : Kt R (Bool × U1)) : Option R :=
 ifB (decide (x.1 ≥ 97)) (ifB (decide (x.1 ≤ 122)) (K (true,()) S) (ifB (decide (x.1 ≥ 65)) (ifB (decide (x.1 ≤ 90)) (K (true,()) S) (ifB (decide (x.1 ≥ 48)) (ifB (decide (x.1 ≤ 57)) (K (true,()) S) (strings_IndexByte.fn k ((bs [46,95,45,43]),x) S fun r1 S => K ((decide (r1.1 ≥ 0)),()) S)) (strings_IndexByte.fn k ((bs [46,95,45,43]),x) S fun r2 S => K ((decide (r2.1 ≥ 0)),()) S))) (ifB (decide (x.1 ≥ 48)) (ifB (decide (x.1 ≤ 57)) (K (true,()) S) (strings_IndexByte.fn k ((bs [46,95,45,43]),x) S fun r3 S => K ((decide (r3.1 ≥ 0)),()) S)) (strings_IndexByte.fn k ((bs [46,95,45,43]),x) S fun r4 S => K ((decide (r4.1 ≥ 0)),()) S)))) (ifB (decide (x.1 ≥ 65)) (ifB (decide (x.1 ≤ 90)) (K (true,()) S) (ifB (decide (x.1 ≥ 48)) (ifB (decide (x.1 ≤ 57)) (K (true,()) S) (strings_IndexByte.fn k ((bs [46,95,45,43]),x) S fun r5 S => K ((decide (r5.1 ≥ 0)),()) S)) (strings_IndexByte.fn k ((bs [46,95,45,43]),x) S fun r6 S => K ((decide (r6.1 ≥ 0)),()) S))) (ifB (decide (x.1 ≥ 48)) (ifB (decide (x.1 ≤ 57)) (K (true,()) S) (strings_IndexByte.fn k ((bs [46,95,45,43]),x) S fun r7 S => K ((decide (r7.1 ≥ 0)),()) S)) (strings_IndexByte.fn k ((bs [46,95,45,43]),x) S fun r8 S => K ((decide (r8.1 ≥ 0)),()) S)))
def en (k : Nat) : Ent PG R := mkFn T_ok Tryz.func100 ps rs (C k) (.seq .auto (.seq .auto (.mask mr .auto))) ⟨tr,tr,tr⟩ (fn k)
end G.blob_inPart
namespace G.blob_isPart
abbrev ps : Mk := sS []
abbrev rs : Mk := sB []
abbrev e0 : Mk := sS (nM 24 [])
abbrev m0 : Mk := sS (n4 (sI (sI (nM 18 []))))
abbrev mr : Mk := n2 (sB (nM 22 []))
abbrev T0 := BA × Int × Int × U1
def C (k : Nat) : List (Ent PG R) := [blob_inPart.en k]
def b0 (k : Nat) (J0 : Kt R (BA × U1)) (Jret : Kt R (Bool × U1)) (rec : Kt R T0) (x : T0) (S : LL) : Option R :=
 ifB (decide (x.2.2.1 < x.2.1)) (idxStr x.1 x.2.2.1 fun c1 => blob_inPart.fn k (c1,()) S fun r2 S => ifB (!r2.1) (Jret (false,()) S) (rec (x.1,x.2.1,(IntKind.wrap .i64 (x.2.2.1 + 1)),()) S)) (J0 (x.1,()) S)
def L0 (k : Nat) : Pc PG R (.loop (su Tryz.f66 37)) := mkLoop T_ok (C k) _ m0 k (.seq .auto (.seq (.cond .auto (.mask e0 .auto)) (.seq (.block (.seq .auto (.seq .auto (.cond (.seq .auto (.mask mr .auto)) .auto)))) .auto))) ⟨tr,⟨tr,tr⟩,⟨tr,tr,⟨tr,tr⟩,tr⟩,tr⟩ (fun K => b0 k (kX K 0 e0) (kR K mr))
def fn (k : Nat) (x : (BA × U1)) (S : LL) (K : Kt R (Bool × U1)) : Option R :=
 rounds (b0 k (fun o3 S => ifB (!(strEq o3.1 (bs []))) (ifB (!(strEq o3.1 (bs [46]))) (K ((!(strEq o3.1 (bs [46,46]))),()) S) (K (false,()) S)) (K (false,()) S)) K) k (x.1,(x.1.size : Int),0,()) S
def en (k : Nat) : Ent PG R := mkFn T_ok Tryz.func66 ps rs (C k) (.seq .auto (.seq (.seq .auto (.block (.piece (L0 k).h))) (.seq .auto (.mask mr .auto)))) ⟨tr,⟨tr,(L0 k).ok⟩,tr,tr⟩ (fn k)
end G.blob_isPart
namespace G.blob_IsPath
abbrev ps : Mk := sS []
abbrev rs : Mk := sB []
abbrev e0 : Mk := nM 24 []
abbrev m0 : Mk := nM 14 (sL 1 (sI (sI (n7 []))))
abbrev mr : Mk := n2 (sB (nM 21 []))
abbrev T0 := LL × Int × Int × U1
def C (k : Nat) : List (Ent PG R) := [strings_Split.en k,blob_isPart.en k]
def b0 (k : Nat) (J0 : Kt R (U1)) (Jret : Kt R (Bool × U1)) (rec : Kt R T0) (x : T0) (S : LL) : Option R :=
 ifB (decide (x.2.2.1 < x.2.1)) (idxL x.1 x.2.2.1 fun v2 => asStr (leaf v2 0) fun s3 => blob_isPart.fn k (s3,()) S fun r4 S => ifB (!r4.1) (Jret (false,()) S) (rec (x.1,x.2.1,(IntKind.wrap .i64 (x.2.2.1 + 1)),()) S)) (J0 (()) S)
def L0 (k : Nat) : Pc PG R (.loop (su Tryz.f35 75)) := mkLoop T_ok (C k) _ m0 k (.seq .auto (.seq (.cond .auto (.mask e0 .auto)) (.seq (.block (.seq .auto (.seq .auto (.cond (.seq .auto (.mask mr .auto)) .auto)))) .auto))) ⟨tr,⟨tr,tr⟩,⟨tr,tr,⟨tr,tr⟩,tr⟩,tr⟩ (fun K => b0 k (kX K 0 e0) (kR K mr))
def fn (k : Nat) (x : (BA × U1)) (S : LL) (K : Kt R (Bool × U1)) : Option R :=
 ifB (decide ((x.1.size : Int) < 1)) (K (false,()) S) (ifB (decide ((x.1.size : Int) > 200)) (K (false,()) S) (strings_Split.fn k (x.1,(bs [47]),()) S fun r1 S => rounds (b0 k (fun o5 S => K (true,()) S) K) k (r1.1,(r1.1.length : Int),0,()) S))
def en (k : Nat) : Ent PG R := mkFn T_ok Tryz.func35 ps rs (C k) (.seq .auto (.seq (.seq .auto (.cond (.seq .auto (.mask mr .auto)) .auto)) (.seq (.seq .auto (.block (.piece (L0 k).h))) (.seq .auto (.mask mr .auto))))) ⟨tr,⟨tr,⟨tr,tr⟩,tr⟩,⟨tr,(L0 k).ok⟩,tr,tr⟩ (fn k)
end G.blob_IsPath
namespace G.blob_IsDigest
abbrev ps : Mk := sS []
abbrev rs : Mk := sB []
abbrev mr : Mk := n2 (sB (n8 []))
def C (k : Nat) : List (Ent PG R) := [⟨109,H.Trim.h k,H.Trim.ok k⟩]
def fn (k : Nat) (x : (BA × U1)) (S : LL) (K : Kt R (Bool × U1)) : Option R :=
 ifB ((x.1.size : Int) == 16) (H.Trim.fn k (x.1,(bs [48,49,50,51,52,53,54,55,56,57,97,98,99,100,101,102]),()) S fun r1 S => K ((strEq r1.1 (bs [])),()) S) (K (false,()) S)
def en (k : Nat) : Ent PG R := mkFn T_ok Tryz.func83 ps rs (C k) (.seq .auto (.seq .auto (.mask mr .auto))) ⟨tr,tr,tr⟩ (fn k)
end G.blob_IsDigest
namespace G.action_isWord
abbrev ps : Mk := sS []
abbrev rs : Mk := sB []
abbrev e0 : Mk := sS (nM 27 [])
abbrev m0 : Mk := sS (n4 (sI (sI (nM 21 []))))
abbrev mr : Mk := n2 (sB (nM 25 []))
abbrev T0 := BA × Int × Int × U1
def C (k : Nat) : List (Ent PG R) := []
def b0 (k : Nat) (J0 : Kt R (BA × U1)) (Jret : Kt R (Bool × U1)) (rec : Kt R T0) (x : T0) (S : LL) : Option R :=
 ifB (decide (x.2.2.1 < x.2.1)) (idxStr x.1 x.2.2.1 fun c1 => ifB (decide (c1 < 33)) (Jret (false,()) S) (idxStr x.1 x.2.2.1 fun c2 => ifB (decide (c2 > 126)) (Jret (false,()) S) (rec (x.1,x.2.1,(IntKind.wrap .i64 (x.2.2.1 + 1)),()) S))) (J0 (x.1,()) S)
def L0 (k : Nat) : Pc PG R (.loop (su Tryz.f145 37)) := mkLoop T_ok (C k) _ m0 k (.seq .auto (.seq (.cond .auto (.mask e0 .auto)) (.seq (.block (.seq .auto (.seq .auto (.cond (.seq .auto (.mask mr .auto)) .auto)))) .auto))) ⟨tr,⟨tr,tr⟩,⟨tr,tr,⟨tr,tr⟩,tr⟩,tr⟩ (fun K => b0 k (kX K 0 e0) (kR K mr))
def fn (k : Nat) (x : (BA × U1)) (S : LL) (K : Kt R (Bool × U1)) : Option R :=
 rounds (b0 k (fun o3 S => ifB (decide ((o3.1.size : Int) ≥ 1)) (K ((decide ((o3.1.size : Int) ≤ 300)),()) S) (K (false,()) S)) K) k (x.1,(x.1.size : Int),0,()) S
def en (k : Nat) : Ent PG R := mkFn T_ok Tryz.func145 ps rs (C k) (.seq .auto (.seq (.seq .auto (.block (.piece (L0 k).h))) (.seq .auto (.mask mr .auto)))) ⟨tr,⟨tr,(L0 k).ok⟩,tr,tr⟩ (fn k)
end G.action_isWord
namespace G.action_checkCommand_1
abbrev ps : Mk := sS []
abbrev rs : Mk := sB []
abbrev mr : Mk := n2 (sB (n3 []))
def C (k : Nat) : List (Ent PG R) := [action_isWord.en k]
def fn (k : Nat) (x : (BA × U1)) (S : LL) (K : Kt R (Bool × U1)) : Option R :=
 action_isWord.fn k x S fun r1 S => K ((!r1.1),()) S
def en (k : Nat) : Ent PG R := mkFn T_ok Tryz.func144 ps rs (C k) (.seq .auto (.seq .auto (.mask mr .auto))) ⟨tr,tr,tr⟩ (fn k)
end G.action_checkCommand_1
namespace G.slices_IndexFunc_s_string_string_at_action_checkCommand_1
abbrev ps : Mk := sL 1 (sh (.fn 144 []) [])
abbrev rs : Mk := sI []
abbrev e0 : Mk := nM 19 []
abbrev m0 : Mk := sL 1 (sh (.fn 144 []) (n5 (sI (sI (nX [])))))
abbrev mr : Mk := n4 (sI (nM 14 []))
abbrev T0 := LL × (U1) × Int × Int × U1
def C (k : Nat) : List (Ent PG R) := [action_checkCommand_1.en k]
def b0 (k : Nat) (J0 : Kt R (U1)) (Jret : Kt R (Int × U1)) (rec : Kt R T0) (x : T0) (S : LL) : Option R :=
 ifB (decide (x.2.2.2.1 < x.2.2.1)) (idxL x.1 x.2.2.2.1 fun v1 => asStr (leaf v1 0) fun s2 => action_checkCommand_1.fn k (s2,()) S fun r3 S => ifB r3.1 (Jret x.2.2.2 S) (rec (x.1,(()),x.2.2.1,(IntKind.wrap .i64 (x.2.2.2.1 + 1)),()) S)) (J0 (()) S)
def L0 (k : Nat) : Pc PG R (.loop (su Tryz.f67 37)) := mkLoop T_ok (C k) _ m0 k (.seq .auto (.seq (.cond .auto (.mask e0 .auto)) (.seq (.block (.seq .auto (.seq .auto (.cond (.seq .auto (.mask mr .auto)) .auto)))) .auto))) ⟨tr,⟨tr,tr⟩,⟨tr,tr,⟨tr,tr⟩,tr⟩,tr⟩ (fun K => b0 k (kX K 0 e0) (kR K mr))
def fn (k : Nat) (x : (LL × (U1) × U1)) (S : LL) (K : Kt R (Int × U1)) : Option R :=
 rounds (b0 k (fun o4 S => K (-1,()) S) K) k (x.1,(()),(x.1.length : Int),0,()) S
def en (k : Nat) : Ent PG R := mkFn T_ok Tryz.func67 ps rs (C k) (.seq .auto (.seq (.seq .auto (.block (.piece (L0 k).h))) (.seq .auto (.mask mr .auto)))) ⟨tr,⟨tr,(L0 k).ok⟩,tr,tr⟩ (fn k)
end G.slices_IndexFunc_s_string_string_at_action_checkCommand_1
namespace G.slices_ContainsFunc_s_string_string_at_action_checkCommand_1
abbrev ps : Mk := sL 1 (sh (.fn 144 []) [])
abbrev rs : Mk := sB []
abbrev mr : Mk := n4 (sB (n4 []))
def C (k : Nat) : List (Ent PG R) := [slices_IndexFunc_s_string_string_at_action_checkCommand_1.en k]
def fn (k : Nat) (x : (LL × (U1) × U1)) (S : LL) (K : Kt R (Bool × U1)) : Option R :=
 slices_IndexFunc_s_string_string_at_action_checkCommand_1.fn k (x.1,(()),()) S fun r1 S => K ((decide (r1.1 ≥ 0)),()) S
def en (k : Nat) : Ent PG R := mkFn T_ok Tryz.func37 ps rs (C k) (.seq .auto (.seq .auto (.mask mr .auto))) ⟨tr,tr,tr⟩ (fn k)
end G.slices_ContainsFunc_s_string_string_at_action_checkCommand_1
namespace G.action_formOf
abbrev ps : Mk := sS []
abbrev rs : Mk := sS []
abbrev c0 : Mk := n3 (sS (n2 (sB (nM 22 []))))
abbrev c1 : Mk := n3 (sS (n9 (sB (nM 15 []))))
abbrev c2 : Mk := n3 (sS (nM 11 (sB (nM 13 []))))
abbrev c3 : Mk := n3 (sS (nM 13 (sB (nM 11 []))))
abbrev c4 : Mk := n3 (sS (nM 15 (sB (n9 []))))
abbrev c5 : Mk := n3 (sS (nM 17 (sB (n7 []))))
abbrev c6 : Mk := n3 (sS (nM 19 (sB (n5 []))))
abbrev c7 : Mk := n3 (sS (nM 21 (sB (n3 []))))
abbrev z0 : Mk := nM 29 []
abbrev mr : Mk := n2 (sS (nM 26 []))
abbrev T1 := BA × U1
abbrev T0 := BA × Bool × U1
def C (k : Nat) : List (Ent PG R) := []
def q7 (k : Nat) (Jnrm : Kt R (U1)) (Jret : Kt R T1) (x : T0) (S : LL) : Option R :=
 ifB x.2.1 (Jret ((bs [112,112]),()) S) (ifB (strEq x.1 (bs [102,97,105,108])) (Jret ((bs [110]),()) S) (Jnrm (()) S))
def Q7 (k : Nat) : Pc PG R (su Tryz.f146 4194293) := mkEnd T_ok (C k) _ c7 z0 (.cond (.seq .auto (.mask mr .auto)) (.seq .auto (.cond (.seq .auto (.mask mr .auto)) .auto))) ⟨⟨tr,tr⟩,tr,⟨tr,tr⟩,tr⟩ (fun x S K => q7 k (kN K z0) (kR K mr) x S)
def q6 (k : Nat) (Jnrm : Kt R (U1)) (Jret : Kt R T1) (x : T0) (S : LL) : Option R :=
 ifB x.2.1 (Jret ((bs [112]),()) S) (q7 k (fun o1 S => Jnrm (()) S) Jret (x.1,(strEq x.1 (bs [115,97,109,101])),()) S)
def Q6 (k : Nat) : Pc PG R (su Tryz.f146 1048565) := mkEnd T_ok (C k) _ c6 z0 (.cond (.seq .auto (.mask mr .auto)) (.seq .auto (.piece (Q7 k).h))) ⟨⟨tr,tr⟩,tr,(Q7 k).ok⟩ (fun x S K => q6 k (kN K z0) (kR K mr) x S)
def q5 (k : Nat) (Jnrm : Kt R (U1)) (Jret : Kt R T1) (x : T0) (S : LL) : Option R :=
 ifB x.2.1 (Jret ((bs [119,43]),()) S) (q6 k (fun o3 S => Jnrm (()) S) Jret (x.1,(strEq x.1 (bs [110,101,101,100])),()) S)
def Q5 (k : Nat) : Pc PG R (su Tryz.f146 262133) := mkEnd T_ok (C k) _ c5 z0 (.cond (.seq .auto (.mask mr .auto)) (.seq .auto (.piece (Q6 k).h))) ⟨⟨tr,tr⟩,tr,(Q6 k).ok⟩ (fun x S K => q5 k (kN K z0) (kR K mr) x S)
def q4 (k : Nat) (Jnrm : Kt R (U1)) (Jret : Kt R T1) (x : T0) (S : LL) : Option R :=
 ifB x.2.1 (Jret ((bs [112,119]),()) S) (q5 k (fun o5 S => Jnrm (()) S) Jret (x.1,(strEq x.1 (bs [116,101,108,108])),()) S)
def Q4 (k : Nat) : Pc PG R (su Tryz.f146 65525) := mkEnd T_ok (C k) _ c4 z0 (.cond (.seq .auto (.mask mr .auto)) (.seq .auto (.piece (Q5 k).h))) ⟨⟨tr,tr⟩,tr,(Q5 k).ok⟩ (fun x S K => q4 k (kN K z0) (kR K mr) x S)
def q3 (k : Nat) (Jnrm : Kt R (U1)) (Jret : Kt R T1) (x : T0) (S : LL) : Option R :=
 ifB x.2.1 (Jret ((bs [112,112,112,43]),()) S) (q4 k (fun o7 S => Jnrm (()) S) Jret (x.1,(strEq x.1 (bs [118,97,114])),()) S)
def Q3 (k : Nat) : Pc PG R (su Tryz.f146 16373) := mkEnd T_ok (C k) _ c3 z0 (.cond (.seq .auto (.mask mr .auto)) (.seq .auto (.piece (Q4 k).h))) ⟨⟨tr,tr⟩,tr,(Q4 k).ok⟩ (fun x S K => q3 k (kN K z0) (kR K mr) x S)
def q2 (k : Nat) (Jnrm : Kt R (U1)) (Jret : Kt R T1) (x : T0) (S : LL) : Option R :=
 ifB x.2.1 (Jret ((bs [112,119,119,112]),()) S) (q3 k (fun o9 S => Jnrm (()) S) Jret (x.1,(strEq x.1 (bs [112,105,99,107])),()) S)
def Q2 (k : Nat) : Pc PG R (su Tryz.f146 4085) := mkEnd T_ok (C k) _ c2 z0 (.cond (.seq .auto (.mask mr .auto)) (.seq .auto (.piece (Q3 k).h))) ⟨⟨tr,tr⟩,tr,(Q3 k).ok⟩ (fun x S K => q2 k (kN K z0) (kR K mr) x S)
def q1 (k : Nat) (Jnrm : Kt R (U1)) (Jret : Kt R T1) (x : T0) (S : LL) : Option R :=
 ifB x.2.1 (Jret ((bs [112,110,112]),()) S) (q2 k (fun o11 S => Jnrm (()) S) Jret (x.1,(strEq x.1 (bs [99,104,97,110,103,101])),()) S)
def Q1 (k : Nat) : Pc PG R (su Tryz.f146 1013) := mkEnd T_ok (C k) _ c1 z0 (.cond (.seq .auto (.mask mr .auto)) (.seq .auto (.piece (Q2 k).h))) ⟨⟨tr,tr⟩,tr,(Q2 k).ok⟩ (fun x S K => q1 k (kN K z0) (kR K mr) x S)
def q0 (k : Nat) (Jnrm : Kt R (U1)) (Jret : Kt R T1) (x : T0) (S : LL) : Option R :=
 ifB x.2.1 (Jret ((bs [112,112]),()) S) (q1 k (fun o13 S => Jnrm (()) S) Jret (x.1,(strEq x.1 (bs [102,105,114,115,116])),()) S)
def Q0 (k : Nat) : Pc PG R (su Tryz.f146 245) := mkEnd T_ok (C k) _ c0 z0 (.cond (.seq .auto (.mask mr .auto)) (.seq .auto (.piece (Q1 k).h))) ⟨⟨tr,tr⟩,tr,(Q1 k).ok⟩ (fun x S K => q0 k (kN K z0) (kR K mr) x S)
def fn (k : Nat) (x : T1) (S : LL) (K : Kt R T1) : Option R :=
 ifB (strEq x.1 (bs [106,111,105,110])) (K ((bs [112,112,43]),()) S) (ifB (strEq x.1 (bs [115,111,114,116])) (q0 k (fun o15 S => K ((bs []),()) S) K (x.1,(strEq x.1 (bs [115,111,114,116])),()) S) (ifB (strEq x.1 (bs [99,111,117,110,116])) (q0 k (fun o17 S => K ((bs []),()) S) K (x.1,(strEq x.1 (bs [99,111,117,110,116])),()) S) (ifB (strEq x.1 (bs [101,120,112,97,110,100])) (q0 k (fun o19 S => K ((bs []),()) S) K (x.1,(strEq x.1 (bs [101,120,112,97,110,100])),()) S) (ifB (strEq x.1 (bs [109,97,107,101])) (q0 k (fun o21 S => K ((bs []),()) S) K (x.1,(strEq x.1 (bs [109,97,107,101])),()) S) (ifB (strEq x.1 (bs [100,105,103,101,115,116])) (q0 k (fun o23 S => K ((bs []),()) S) K (x.1,(strEq x.1 (bs [100,105,103,101,115,116])),()) S) (q0 k (fun o25 S => K ((bs []),()) S) K (x.1,(strEq x.1 (bs [108,105,115,116])),()) S))))))
def en (k : Nat) : Ent PG R := mkFn T_ok Tryz.func146 ps rs (C k) (.seq .auto (.seq (.seq .auto (.block (.seq .auto (.cond (.seq .auto (.mask mr .auto)) (.seq (.seq .auto (.cond .auto (.seq .auto (.cond .auto (.seq .auto (.cond .auto (.seq .auto (.cond .auto (.seq .auto (.cond .auto .auto)))))))))) (.piece (Q0 k).h)))))) (.seq .auto (.mask mr .auto)))) ⟨tr,⟨tr,tr,⟨tr,tr⟩,⟨tr,tr,tr,tr,tr,tr,tr,tr,tr,tr,tr⟩,(Q0 k).ok⟩,tr,tr⟩ (fn k)
end G.action_formOf
namespace G.internal_stringslite_HasSuffix
abbrev ps : Mk := sS (sS [])
abbrev rs : Mk := sB []
abbrev mr : Mk := n4 (sB (nM 16 []))
def C (k : Nat) : List (Ent PG R) := []
def fn (k : Nat) (x : (BA × BA × U1)) (S : LL) (K : Kt R (Bool × U1)) : Option R :=
 ifB (decide ((x.1.size : Int) ≥ (x.2.1.size : Int))) (slStr x.1 (IntKind.wrap .i64 ((x.1.size : Int) - (x.2.1.size : Int))) (x.1.size : Int) fun s1 => K ((strEq s1 x.2.1),()) S) (K (false,()) S)
def en (k : Nat) : Ent PG R := mkFn T_ok Tryz.func169 ps rs (C k) (.seq .auto (.seq .auto (.mask mr .auto))) ⟨tr,tr,tr⟩ (fn k)
end G.internal_stringslite_HasSuffix
namespace G.internal_stringslite_CutSuffix
abbrev ps : Mk := sS (sS [])
abbrev rs : Mk := sS (sB [])
abbrev mr : Mk := n4 (sS (sB (nM 12 [])))
def C (k : Nat) : List (Ent PG R) := [internal_stringslite_HasSuffix.en k]
def fn (k : Nat) (x : (BA × BA × U1)) (S : LL) (K : Kt R (BA × Bool × U1)) : Option R :=
 internal_stringslite_HasSuffix.fn k x S fun r1 S => ifB (!r1.1) (K (x.1,false,()) S) (slStr x.1 (0 : Int) (IntKind.wrap .i64 ((x.1.size : Int) - (x.2.1.size : Int))) fun s2 => K (s2,true,()) S)
def en (k : Nat) : Ent PG R := mkFn T_ok Tryz.func203 ps rs (C k) (.seq .auto (.seq (.seq .auto (.cond (.seq .auto (.mask mr .auto)) .auto)) (.seq .auto (.mask mr .auto)))) ⟨tr,⟨tr,⟨tr,tr⟩,tr⟩,tr,tr⟩ (fn k)
end G.internal_stringslite_CutSuffix
namespace G.strings_CutSuffix
abbrev ps : Mk := sS (sS [])
abbrev rs : Mk := sS (sB [])
abbrev mr : Mk := n4 (sS (sB (n5 [])))
def C (k : Nat) : List (Ent PG R) := [internal_stringslite_CutSuffix.en k]
def fn (k : Nat) (x : (BA × BA × U1)) (S : LL) (K : Kt R (BA × Bool × U1)) : Option R :=
 internal_stringslite_CutSuffix.fn k x S K
def en (k : Nat) : Ent PG R := mkFn T_ok Tryz.func178 ps rs (C k) (.seq .auto (.seq .auto (.mask mr .auto))) ⟨tr,tr,tr⟩ (fn k)
end G.strings_CutSuffix
namespace G.action_isNumber
abbrev ps : Mk := sS (sI [])
abbrev rs : Mk := sB []
abbrev mr : Mk := n4 (sB (nM 23 []))
def C (k : Nat) : List (Ent PG R) := [⟨109,H.Trim.h k,H.Trim.ok k⟩]
def fn (k : Nat) (x : (BA × Int × U1)) (S : LL) (K : Kt R (Bool × U1)) : Option R :=
 ifB (decide ((x.1.size : Int) ≥ 1)) (ifB (decide ((x.1.size : Int) ≤ x.2.1)) (H.Trim.fn k (x.1,(bs [48,49,50,51,52,53,54,55,56,57]),()) S fun r1 S => ifB (strEq r1.1 (bs [])) (idxStr x.1 (0 : Int) fun c2 => ifB (c2 != 48) (K (true,()) S) (K ((strEq x.1 (bs [48])),()) S)) (K (false,()) S)) (K (false,()) S)) (K (false,()) S)
def en (k : Nat) : Ent PG R := mkFn T_ok Tryz.func190 ps rs (C k) (.seq .auto (.seq .auto (.mask mr .auto))) ⟨tr,tr,tr⟩ (fn k)
end G.action_isNumber
namespace G.action_hasForm
abbrev ps : Mk := sL 1 (sS [])
abbrev rs : Mk := sB []
abbrev c0 : Mk := n1 (sS (nM 27 (sL 1 (sI (sI (nM 22 []))))))
abbrev c1 : Mk := sL 1 (sS (nM 52 []))
abbrev c2 : Mk := n1 (sS (nM 27 (sL 1 (sI (sI (sB (nM 21 [])))))))
abbrev c4 : Mk := n1 (sS (n4 (sI (sS (nM 21 (sL 1 (sI (sI (nM 22 [])))))))))
abbrev c5 : Mk := n1 (sS (n5 (sS (nM 21 (sL 1 (sI (sI (nX (sh (.lf (.int .u8)) (nM 11 []))))))))))
abbrev c6 : Mk := n1 (sS (n5 (sS (nM 21 (sL 1 (sI (sI (nX (sh (.lf (.int .u8)) (sB (nX [])))))))))))
abbrev c7 : Mk := n1 (sS (n5 (sS (nM 21 (sL 1 (sI (sI (nM 16 (sB (n5 []))))))))))
abbrev z0 : Mk := nM 54 []
abbrev mr : Mk := n4 (sB (nM 49 []))
abbrev T1 := Bool × U1
abbrev T0 := BA × LL × Int × Int × U1
def C (k : Nat) : List (Ent PG R) := [blob_IsPath.en k,strings_CutSuffix.en k,action_isNumber.en k]
def q7 (k : Nat) (Jnrm : Kt R T0) (Jret : Kt R T1) (x : (BA × BA × LL × Int × Int × Bool × U1)) (S : LL) : Option R :=
 ifB x.2.2.2.2.2.1 (action_isNumber.fn k (x.2.1,6,()) S fun r6 S => ifB (!r6.1) (Jret (false,()) S) (Jnrm (x.1,x.2.2.1,x.2.2.2.1,x.2.2.2.2.1,()) S)) (Jnrm (x.1,x.2.2.1,x.2.2.2.1,x.2.2.2.2.1,()) S)
def Q7 (k : Nat) : Pc PG R (su Tryz.f147 252311) := mkEnd T_ok (C k) _ c7 c0 (.cond (.seq .auto (.cond (.seq .auto (.mask mr .auto)) .auto)) .auto) ⟨⟨tr,⟨tr,tr⟩,tr⟩,tr⟩ (fun x S K => q7 k (kN K c0) (kR K mr) x S)
def q6 (k : Nat) (Jnrm : Kt R T0) (Jret : Kt R T1) (x : (BA × BA × LL × Int × Int × Int × Bool × U1)) (S : LL) : Option R :=
 ifB x.2.2.2.2.2.2.1 (blob_IsPath.fn k (x.2.1,()) S fun r5 S => ifB (!r5.1) (Jret (false,()) S) (Jnrm (x.1,x.2.2.1,x.2.2.2.1,x.2.2.2.2.1,()) S)) (q7 k Jnrm Jret (x.1,x.2.1,x.2.2.1,x.2.2.2.1,x.2.2.2.2.1,(x.2.2.2.2.2.1 == 110),()) S)
def Q6 (k : Nat) : Pc PG R (su Tryz.f147 55703) := mkEnd T_ok (C k) _ c6 c0 (.cond (.seq .auto (.cond (.seq .auto (.mask mr .auto)) .auto)) (.seq .auto (.piece (Q7 k).h))) ⟨⟨tr,⟨tr,tr⟩,tr⟩,tr,(Q7 k).ok⟩ (fun x S K => q6 k (kN K c0) (kR K mr) x S)
def q5 (k : Nat) (Jnrm : Kt R T0) (Jret : Kt R T1) (x : (BA × BA × LL × Int × Int × Int × U1)) (S : LL) : Option R :=
 q6 k Jnrm Jret (x.1,x.2.1,x.2.2.1,x.2.2.2.1,x.2.2.2.2.1,x.2.2.2.2.2.1,(x.2.2.2.2.2.1 == 112),()) S
def Q5 (k : Nat) : Pc PG R (su Tryz.f147 14743) := mkEnd T_ok (C k) _ c5 c0 (.block (.seq .auto (.piece (Q6 k).h))) ⟨tr,(Q6 k).ok⟩ (fun x S K => q5 k (kN K c0) (kR K mr) x S)
def q4 (k : Nat) (Jnrm : Kt R T0) (Jret : Kt R T1) (x : (BA × Int × BA × LL × Int × Int × U1)) (S : LL) : Option R :=
 idxStr x.1 (minI x.2.1 (IntKind.wrap .i64 ((x.1.size : Int) - 1))) fun c4 => q5 k Jnrm Jret (x.1,x.2.2.1,x.2.2.2.1,x.2.2.2.2.1,x.2.2.2.2.2.1,c4,()) S
def Q4 (k : Nat) : Pc PG R (su Tryz.f147 6551) := mkEnd T_ok (C k) _ c4 c0 (.seq .auto (.piece (Q5 k).h)) ⟨tr,(Q5 k).ok⟩ (fun x S K => q4 k (kN K c0) (kR K mr) x S)
def q3 (k : Nat) (Jnrm : Kt R T0) (Jret : Kt R T1) (x : T0) (S : LL) : Option R :=
 idxL x.2.1 x.2.2.2.1 fun v2 => asStr (leaf v2 0) fun s3 => q4 k (fun o13 S => Jnrm (o13.1,o13.2.1,o13.2.2.1,(IntKind.wrap .i64 (o13.2.2.2.1 + 1)),()) S) Jret (x.1,x.2.2.2.1,s3,x.2) S
def Q3 (k : Nat) : Pc PG R (su Tryz.f147 919) := mkEnd T_ok (C k) _ c0 c0 (.seq (.block (.seq .auto (.piece (Q4 k).h))) .auto) ⟨⟨tr,(Q4 k).ok⟩,tr⟩ (fun x S K => q3 k (kN K c0) (kR K mr) x S)
def q2 (k : Nat) (Jnrm : Kt R T0) (J0 : Kt R (U1)) (Jret : Kt R T1) (x : (BA × LL × Int × Int × Bool × U1)) (S : LL) : Option R :=
 ifB x.2.2.2.2.1 (q3 k Jnrm Jret (x.1,x.2.1,x.2.2.1,x.2.2.2.1,()) S) (J0 (()) S)
def Q2 (k : Nat) : Pc PG R (su Tryz.f147 407) := mkEnd T_ok (C k) _ c2 c0 (.seq (.cond .auto (.mask z0 .auto)) (.piece (Q3 k).h)) ⟨⟨tr,tr⟩,(Q3 k).ok⟩ (fun x S K => q2 k (kN K c0) (kX K 0 z0) (kR K mr) x S)
def b0 (k : Nat) (J0 : Kt R (U1)) (Jret : Kt R T1) (rec : Kt R T0) (x : T0) (S : LL) : Option R :=
 q2 k rec (fun o18 S => J0 (()) S) Jret (x.1,x.2.1,x.2.2.1,x.2.2.2.1,(decide (x.2.2.2.1 < x.2.2.1)),()) S
def L0 (k : Nat) : Pc PG R (.loop (su Tryz.f147 151)) := mkLoop T_ok (C k) _ c0 k (.seq .auto (.piece (Q2 k).h)) ⟨tr,(Q2 k).ok⟩ (fun K => b0 k (kX K 0 z0) (kR K mr))
def q0 (k : Nat) (Jnrm : Kt R (U1)) (Jret : Kt R T1) (x : T0) (S : LL) : Option R :=
 rounds (b0 k (fun o20 S => Jnrm (()) S) Jret) k x S
def Q0 (k : Nat) : Pc PG R (su Tryz.f147 55) := mkEnd T_ok (C k) _ c0 z0 (.block (.piece (L0 k).h)) (L0 k).ok (fun x S K => q0 k (kN K z0) (kR K mr) x S)
def q1 (k : Nat) (Jret : Kt R T1) (x : (LL × BA × U1)) (S : LL) : Option R :=
 q0 k (fun o22 S => Jret (true,()) S) Jret (x.2.1,x.1,(x.1.length : Int),0,()) S
def Q1 (k : Nat) : Pc PG R (su Tryz.f147 15) := mkCut T_ok (C k) _ c1 (.seq (.seq .auto (.piece (Q0 k).h)) (.seq .auto (.mask mr .auto))) ⟨⟨tr,(Q0 k).ok⟩,tr,tr⟩ (fun x S K => q1 k (kR K mr) x S)
def fn (k : Nat) (x : (LL × BA × U1)) (S : LL) (K : Kt R T1) : Option R :=
 strings_CutSuffix.fn k (x.2.1,(bs [43]),()) S fun r1 S => ifB (decide ((x.1.length : Int) < (r1.1.size : Int))) (K (false,()) S) (ifB (decide ((x.1.length : Int) > (r1.1.size : Int))) (ifB (!r1.2.1) (K (false,()) S) (q1 k K (x.1,r1.1,()) S)) (q1 k K (x.1,r1.1,()) S))
def en (k : Nat) : Ent PG R := mkFn T_ok Tryz.func147 ps rs (C k) (.seq .auto (.seq (.own [(2,1)]) (.seq (.seq .auto (.cond (.seq .auto (.mask mr .auto)) .auto)) (.piece (Q1 k).h)))) ⟨tr,tr,⟨tr,⟨tr,tr⟩,tr⟩,(Q1 k).ok⟩ (fn k)
end G.action_hasForm
namespace G.action_checkCommand
abbrev ps : Mk := sL 1 []
abbrev rs : Mk := sI []
abbrev mr : Mk := n2 (sI (nM 32 []))
def C (k : Nat) : List (Ent PG R) := [slices_ContainsFunc_s_string_string_at_action_checkCommand_1.en k,action_formOf.en k,action_hasForm.en k]
def fn (k : Nat) (x : (LL × U1)) (S : LL) (K : Kt R (Int × U1)) : Option R :=
 ifB ((x.1.length : Int) == 0) (K (9,()) S) (ifB (decide ((x.1.length : Int) > 50)) (K (2,()) S) (slices_ContainsFunc_s_string_string_at_action_checkCommand_1.fn k (x.1,(()),()) S fun r1 S => ifB r1.1 (K (3,()) S) (idxL x.1 (0 : Int) fun v2 => asStr (leaf v2 0) fun s3 => action_formOf.fn k (s3,()) S fun r4 S => ifB (strEq r4.1 (bs [])) (K (4,()) S) (slL x.1 (1 : Int) (x.1.length : Int) fun l5 => action_hasForm.fn k (l5,r4) S fun r6 S => ifB (!r6.1) (K (3,()) S) (idxL x.1 (0 : Int) fun v7 => asStr (leaf v7 0) fun s8 => ifB (strEq s8 (bs [102,97,105,108])) (idxL x.1 (1 : Int) fun v9 => asStr (leaf v9 0) fun s10 => ifB (strEq s10 (bs [48])) (K (3,()) S) (K (0,()) S)) (K (0,()) S))))))
def en (k : Nat) : Ent PG R := mkFn T_ok Tryz.func104 ps rs (C k) (.seq .auto (.seq (.seq .auto (.cond (.seq .auto (.mask mr .auto)) .auto)) (.seq (.seq .auto (.cond (.seq .auto (.mask mr .auto)) .auto)) (.seq (.seq .auto (.cond (.seq .auto (.mask mr .auto)) .auto)) (.seq .auto (.seq (.seq .auto (.cond (.seq .auto (.mask mr .auto)) .auto)) (.seq (.seq .auto (.cond (.seq .auto (.mask mr .auto)) .auto)) (.seq .auto (.mask mr .auto))))))))) ⟨tr,⟨tr,⟨tr,tr⟩,tr⟩,⟨tr,⟨tr,tr⟩,tr⟩,⟨tr,⟨tr,tr⟩,tr⟩,tr,⟨tr,⟨tr,tr⟩,tr⟩,⟨tr,⟨tr,tr⟩,tr⟩,tr,tr⟩ (fn k)
end G.action_checkCommand
namespace G.script_isSmall
abbrev ps : Mk := sh (.lf (.int .u8)) []
abbrev rs : Mk := sB []
abbrev mr : Mk := n2 (sB (n6 []))
def C (k : Nat) : List (Ent PG R) := []
def fn (k : Nat) (x : (Int × U1)) (S : LL) (K : Kt R (Bool × U1)) : Option R :=
 ifB (decide (x.1 ≥ 97)) (K ((decide (x.1 ≤ 122)),()) S) (K (false,()) S)
def en (k : Nat) : Ent PG R := mkFn T_ok Tryz.func191 ps rs (C k) (.seq .auto (.seq .auto (.mask mr .auto))) ⟨tr,tr,tr⟩ (fn k)
end G.script_isSmall
namespace G.script_isDigit
abbrev ps : Mk := sh (.lf (.int .u8)) []
abbrev rs : Mk := sB []
abbrev mr : Mk := n2 (sB (n6 []))
def C (k : Nat) : List (Ent PG R) := []
def fn (k : Nat) (x : (Int × U1)) (S : LL) (K : Kt R (Bool × U1)) : Option R :=
 ifB (decide (x.1 ≥ 48)) (K ((decide (x.1 ≤ 57)),()) S) (K (false,()) S)
def en (k : Nat) : Ent PG R := mkFn T_ok Tryz.func192 ps rs (C k) (.seq .auto (.seq .auto (.mask mr .auto))) ⟨tr,tr,tr⟩ (fn k)
end G.script_isDigit
namespace G.script_words
abbrev ps : Mk := []
abbrev rs : Mk := sO 9 1 []
abbrev mr : Mk := sO 9 1 (n1 [])
def C (k : Nat) : List (Ent PG R) := []
def fn (k : Nat) (x : (U1)) (S : LL) (K : Kt R (LL × U1)) : Option R :=
 K ([(.str (bs [109,97,99,114,111])),(.str (bs [102,111,114])),(.str (bs [105,110])),(.str (bs [105,102])),(.str (bs [101,108,115,101])),(.str (bs [117,115,101])),(.str (bs [102,105,108,101,115])),(.str (bs [99,104,111,111,115,101]))],()) S
def en (k : Nat) : Ent PG R := mkFn T_ok Tryz.func193 ps rs (C k) (.seq .auto (.seq .auto (.mask mr .auto))) ⟨tr,tr,tr⟩ (fn k)
end G.script_words
namespace G.slices_Index_s_string_string
abbrev ps : Mk := sL 1 (sS [])
abbrev rs : Mk := sI []
abbrev e0 : Mk := nM 19 []
abbrev m0 : Mk := sL 1 (sS (n5 (sI (sI (nX [])))))
abbrev mr : Mk := n4 (sI (nM 14 []))
abbrev T0 := LL × BA × Int × Int × U1
def C (k : Nat) : List (Ent PG R) := []
def b0 (k : Nat) (J0 : Kt R (U1)) (Jret : Kt R (Int × U1)) (rec : Kt R T0) (x : T0) (S : LL) : Option R :=
 ifB (decide (x.2.2.2.1 < x.2.2.1)) (idxL x.1 x.2.2.2.1 fun v1 => asStr (leaf v1 0) fun s2 => ifB (strEq x.2.1 s2) (Jret x.2.2.2 S) (rec (x.1,x.2.1,x.2.2.1,(IntKind.wrap .i64 (x.2.2.2.1 + 1)),()) S)) (J0 (()) S)
def L0 (k : Nat) : Pc PG R (.loop (su Tryz.f27 37)) := mkLoop T_ok (C k) _ m0 k (.seq .auto (.seq (.cond .auto (.mask e0 .auto)) (.seq (.block (.seq .auto (.seq .auto (.cond (.seq .auto (.mask mr .auto)) .auto)))) .auto))) ⟨tr,⟨tr,tr⟩,⟨tr,tr,⟨tr,tr⟩,tr⟩,tr⟩ (fun K => b0 k (kX K 0 e0) (kR K mr))
def fn (k : Nat) (x : (LL × BA × U1)) (S : LL) (K : Kt R (Int × U1)) : Option R :=
 rounds (b0 k (fun o3 S => K (-1,()) S) K) k (x.1,x.2.1,(x.1.length : Int),0,()) S
def en (k : Nat) : Ent PG R := mkFn T_ok Tryz.func27 ps rs (C k) (.seq .auto (.seq (.seq .auto (.block (.piece (L0 k).h))) (.seq .auto (.mask mr .auto)))) ⟨tr,⟨tr,(L0 k).ok⟩,tr,tr⟩ (fn k)
end G.slices_Index_s_string_string
namespace G.slices_Contains_s_string_string
abbrev ps : Mk := sL 1 (sS [])
abbrev rs : Mk := sB []
abbrev mr : Mk := n4 (sB (n4 []))
def C (k : Nat) : List (Ent PG R) := [slices_Index_s_string_string.en k]
def fn (k : Nat) (x : (LL × BA × U1)) (S : LL) (K : Kt R (Bool × U1)) : Option R :=
 slices_Index_s_string_string.fn k x S fun r1 S => K ((decide (r1.1 ≥ 0)),()) S
def en (k : Nat) : Ent PG R := mkFn T_ok Tryz.func10 ps rs (C k) (.seq .auto (.seq .auto (.mask mr .auto))) ⟨tr,tr,tr⟩ (fn k)
end G.slices_Contains_s_string_string
namespace G.script_IsName
abbrev ps : Mk := sS []
abbrev rs : Mk := sB []
abbrev e0 : Mk := sS (nM 45 [])
abbrev m0 : Mk := sS (nM 18 (sI (sI (nM 25 []))))
abbrev mr : Mk := n2 (sB (nM 43 []))
abbrev T0 := BA × Int × Int × U1
def C (k : Nat) : List (Ent PG R) := [slices_Contains_s_string_string.en k,script_isSmall.en k,script_isDigit.en k,script_words.en k]
def b0 (k : Nat) (J0 : Kt R (BA × U1)) (Jret : Kt R (Bool × U1)) (rec : Kt R T0) (x : T0) (S : LL) : Option R :=
 ifB (decide (x.2.2.1 < x.2.1)) (idxStr x.1 x.2.2.1 fun c3 => script_isSmall.fn k (c3,()) S fun r4 S => ifB (!r4.1) (idxStr x.1 x.2.2.1 fun c5 => script_isDigit.fn k (c5,()) S fun r6 S => ifB (!r6.1) (idxStr x.1 x.2.2.1 fun c7 => ifB (c7 != 95) (Jret (false,()) S) (rec (x.1,x.2.1,(IntKind.wrap .i64 (x.2.2.1 + 1)),()) S)) (rec (x.1,x.2.1,(IntKind.wrap .i64 (x.2.2.1 + 1)),()) S)) (rec (x.1,x.2.1,(IntKind.wrap .i64 (x.2.2.1 + 1)),()) S)) (J0 (x.1,()) S)
def L0 (k : Nat) : Pc PG R (.loop (su Tryz.f148 75)) := mkLoop T_ok (C k) _ m0 k (.seq .auto (.seq (.cond .auto (.mask e0 .auto)) (.seq (.block (.seq .auto (.seq .auto (.cond (.seq .auto (.mask mr .auto)) .auto)))) .auto))) ⟨tr,⟨tr,tr⟩,⟨tr,tr,⟨tr,tr⟩,tr⟩,tr⟩ (fun K => b0 k (kX K 0 e0) (kR K mr))
def fn (k : Nat) (x : (BA × U1)) (S : LL) (K : Kt R (Bool × U1)) : Option R :=
 ifB (decide ((x.1.size : Int) < 1)) (K (false,()) S) (ifB (decide ((x.1.size : Int) > 40)) (K (false,()) S) (idxStr x.1 (0 : Int) fun c1 => script_isSmall.fn k (c1,()) S fun r2 S => ifB (!r2.1) (K (false,()) S) (rounds (b0 k (fun o8 S => script_words.fn k (()) S fun r9 S => slices_Contains_s_string_string.fn k (r9.1,o8) S fun r10 S => K ((!r10.1),()) S) K) k (x.1,(x.1.size : Int),0,()) S)))
def en (k : Nat) : Ent PG R := mkFn T_ok Tryz.func148 ps rs (C k) (.seq .auto (.seq (.seq .auto (.cond (.seq .auto (.mask mr .auto)) .auto)) (.seq (.seq .auto (.block (.piece (L0 k).h))) (.seq .auto (.mask mr .auto))))) ⟨tr,⟨tr,⟨tr,tr⟩,tr⟩,⟨tr,(L0 k).ok⟩,tr,tr⟩ (fn k)
end G.script_IsName
namespace G.action_checkVars_1
abbrev ps : Mk := sh (.lf (.int .i32)) []
abbrev rs : Mk := sB []
abbrev mr : Mk := n2 (sB (n6 []))
def C (k : Nat) : List (Ent PG R) := []
def fn (k : Nat) (x : (Int × U1)) (S : LL) (K : Kt R (Bool × U1)) : Option R :=
 ifB (decide (x.1 < 32)) (K (true,()) S) (K ((decide (x.1 > 126)),()) S)
def en (k : Nat) : Ent PG R := mkFn T_ok Tryz.func149 ps rs (C k) (.seq .auto (.seq .auto (.mask mr .auto))) ⟨tr,tr,tr⟩ (fn k)
end G.action_checkVars_1
def H.indexFunc_at_action_checkVars_1.fn (k : Nat) (x : ByteArray × Unit × Bool × Unit) (S : List LV) (K : Int × Unit → List LV → Option R) : Option R := H.indexFunc.fn (G.action_checkVars_1.en k).h 149 x S K
def H.indexFunc_at_action_checkVars_1.h (k : Nat) : Hd R := hT (H.indexFunc.ps 149) fun x S K => H.indexFunc_at_action_checkVars_1.fn k x S fun r S => K (resE H.indexFunc.rs r) S
theorem H.indexFunc_at_action_checkVars_1.ok (k : Nat) : HSound Tryz.prog 201 (H.indexFunc_at_action_checkVars_1.h (R := R) k) := H.indexFunc.ok (G.action_checkVars_1.en k).ok (enters_ok Tryz.func149 (by kernel_rfl) (by kernel_rfl))
namespace G.strings_IndexFunc_at_action_checkVars_1
abbrev ps : Mk := sS (sh (.fn 149 []) [])
abbrev rs : Mk := sI []
abbrev mr : Mk := n4 (sI (n3 []))
def C (k : Nat) : List (Ent PG R) := [⟨201,H.indexFunc_at_action_checkVars_1.h k,H.indexFunc_at_action_checkVars_1.ok k⟩]
def fn (k : Nat) (x : (BA × (U1) × U1)) (S : LL) (K : Kt R (Int × U1)) : Option R :=
 H.indexFunc_at_action_checkVars_1.fn k (x.1,(()),true,()) S K
def en (k : Nat) : Ent PG R := mkFn T_ok Tryz.func168 ps rs (C k) (.seq .auto (.seq .auto (.mask mr .auto))) ⟨tr,tr,tr⟩ (fn k)
end G.strings_IndexFunc_at_action_checkVars_1
namespace G.strings_ContainsFunc_at_action_checkVars_1
abbrev ps : Mk := sS (sh (.fn 149 []) [])
abbrev rs : Mk := sB []
abbrev mr : Mk := n4 (sB (n4 []))
def C (k : Nat) : List (Ent PG R) := [strings_IndexFunc_at_action_checkVars_1.en k]
def fn (k : Nat) (x : (BA × (U1) × U1)) (S : LL) (K : Kt R (Bool × U1)) : Option R :=
 strings_IndexFunc_at_action_checkVars_1.fn k (x.1,(()),()) S fun r1 S => K ((decide (r1.1 ≥ 0)),()) S
def en (k : Nat) : Ent PG R := mkFn T_ok Tryz.func110 ps rs (C k) (.seq .auto (.seq .auto (.mask mr .auto))) ⟨tr,tr,tr⟩ (fn k)
end G.strings_ContainsFunc_at_action_checkVars_1
namespace G.action_checkVars
abbrev ps : Mk := sL 2 []
abbrev rs : Mk := sI []
abbrev c0 : Mk := sL 2 (n2 (sI (sX [.str,.str] (n3 (sL 2 (sI (sI (n9 (sB (nM 24 []))))))))))
abbrev z0 : Mk := sL 2 (n7 (sL 2 (sI (sI (nM 34 [])))))
abbrev e0 : Mk := nM 45 []
abbrev mr : Mk := n2 (sI (nM 42 []))
abbrev T0 := LL × LL × Int × Int × U1
def C (k : Nat) : List (Ent PG R) := [strings_ContainsFunc_at_action_checkVars_1.en k,script_IsName.en k]
def q0 (k : Nat) (Jnrm : Kt R T0) (Jret : Kt R (Int × U1)) (x : (LL × Int × (BA × BA × U1) × LL × Int × Int × Bool × U1)) (S : LL) : Option R :=
 ifB x.2.2.2.2.2.2.1 (Jret ((3 : Int),()) S) (ifB (decide (x.2.1 > 0)) (idxL x.1 (IntKind.wrap .i64 (x.2.1 - 1)) fun v6 => asStr (leaf v6 0) fun s7 => ifB (strLt x.2.2.1.1 s7 || strEq x.2.2.1.1 s7) (Jret ((8 : Int),()) S) (Jnrm (x.1,x.2.2.2.1,x.2.2.2.2.1,x.2.2.2.2.2.1,()) S)) (Jnrm (x.1,x.2.2.2.1,x.2.2.2.2.1,x.2.2.2.2.2.1,()) S))
def Q0 (k : Nat) : Pc PG R (su Tryz.f105 62667) := mkEnd T_ok (C k) _ c0 z0 (.cond (.seq .auto (.mask mr .auto)) (.seq (.drawn [] [0,1,2,3,4,5,6,7,8,9,10,11,12,13]) (.cond (.seq .auto (.mask mr .auto)) .auto))) ⟨⟨tr,tr⟩,(drawn_an (by kernel_rfl)),⟨tr,tr⟩,tr⟩ (fun x S K => q0 k (kN K z0) (kR K mr) x S)
def b0 (k : Nat) (J0 : Kt R (U1)) (Jret : Kt R (Int × U1)) (rec : Kt R T0) (x : T0) (S : LL) : Option R :=
 ifB (decide (x.2.2.2.1 < x.2.2.1)) (idxL x.2.1 x.2.2.2.1 fun v1 => mat 2 v1 fun c2 => asStr (c2.getD 0 .any) fun s3 => asStr (c2.getD 1 .any) fun s4 => script_IsName.fn k (s3,()) S fun r5 S => ifB (!r5.1) (Jret ((5 : Int),()) S) (ifB (decide ((s4.size : Int) > 300)) (q0 k (fun o8 S => rec (o8.1,o8.2.1,o8.2.2.1,(IntKind.wrap .i64 (o8.2.2.2.1 + 1)),()) S) Jret (x.1,x.2.2.2.1,(s3,s4,()),x.2.1,x.2.2.1,x.2.2.2.1,true,()) S) (strings_ContainsFunc_at_action_checkVars_1.fn k (s4,(()),()) S fun r10 S => q0 k (fun o11 S => rec (o11.1,o11.2.1,o11.2.2.1,(IntKind.wrap .i64 (o11.2.2.2.1 + 1)),()) S) Jret (x.1,x.2.2.2.1,(s3,s4,()),x.2.1,x.2.2.1,x.2.2.2.1,r10) S))) (J0 (()) S)
def L0 (k : Nat) : Pc PG R (.loop (su Tryz.f105 75)) := mkLoop T_ok (C k) _ z0 k (.seq .auto (.seq (.cond .auto (.mask e0 .auto)) (.seq (.block (.seq .auto (.block (.seq .auto (.cond (.seq .auto (.mask mr .auto)) (.seq .auto (.piece (Q0 k).h))))))) .auto))) ⟨tr,⟨tr,tr⟩,⟨tr,tr,⟨tr,tr⟩,tr,(Q0 k).ok⟩,tr⟩ (fun K => b0 k (kX K 0 e0) (kR K mr))
def fn (k : Nat) (x : (LL × U1)) (S : LL) (K : Kt R (Int × U1)) : Option R :=
 ifB (decide ((x.1.length : Int) > 30)) (K (2,()) S) (rounds (b0 k (fun o13 S => K (0,()) S) K) k (x.1,x.1,(x.1.length : Int),0,()) S)
def en (k : Nat) : Ent PG R := mkFn T_ok Tryz.func105 ps rs (C k) (.seq .auto (.seq (.seq .auto (.cond (.seq .auto (.mask mr .auto)) .auto)) (.seq (.seq .auto (.block (.piece (L0 k).h))) (.seq .auto (.mask mr .auto))))) ⟨tr,⟨tr,⟨tr,tr⟩,tr⟩,⟨tr,(L0 k).ok⟩,tr,tr⟩ (fn k)
end G.action_checkVars
namespace G.internal_stringslite_HasPrefix
abbrev ps : Mk := sS (sS [])
abbrev rs : Mk := sB []
abbrev mr : Mk := n4 (sB (nM 13 []))
def C (k : Nat) : List (Ent PG R) := []
def fn (k : Nat) (x : (BA × BA × U1)) (S : LL) (K : Kt R (Bool × U1)) : Option R :=
 ifB (decide ((x.1.size : Int) ≥ (x.2.1.size : Int))) (slStr x.1 (0 : Int) (x.2.1.size : Int) fun s1 => K ((strEq s1 x.2.1),()) S) (K (false,()) S)
def en (k : Nat) : Ent PG R := mkFn T_ok Tryz.func130 ps rs (C k) (.seq .auto (.seq .auto (.mask mr .auto))) ⟨tr,tr,tr⟩ (fn k)
end G.internal_stringslite_HasPrefix
namespace G.strings_HasPrefix
abbrev ps : Mk := sS (sS [])
abbrev rs : Mk := sB []
abbrev mr : Mk := n4 (sB (n3 []))
def C (k : Nat) : List (Ent PG R) := [internal_stringslite_HasPrefix.en k]
def fn (k : Nat) (x : (BA × BA × U1)) (S : LL) (K : Kt R (Bool × U1)) : Option R :=
 internal_stringslite_HasPrefix.fn k x S K
def en (k : Nat) : Ent PG R := mkFn T_ok Tryz.func98 ps rs (C k) (.seq .auto (.seq .auto (.mask mr .auto))) ⟨tr,tr,tr⟩ (fn k)
end G.strings_HasPrefix
namespace G.blob_Within
abbrev ps : Mk := sS (sS [])
abbrev rs : Mk := sB []
abbrev mr : Mk := n4 (sB (n4 []))
def C (k : Nat) : List (Ent PG R) := [strings_HasPrefix.en k]
def fn (k : Nat) (x : (BA × BA × U1)) (S : LL) (K : Kt R (Bool × U1)) : Option R :=
 catStr x.2.1 (bs [47]) fun s1 => strings_HasPrefix.fn k (x.1,s1,()) S K
def en (k : Nat) : Ent PG R := mkFn T_ok Tryz.func151 ps rs (C k) (.seq .auto (.seq .auto (.mask mr .auto))) ⟨tr,tr,tr⟩ (fn k)
end G.blob_Within
namespace G.action_checkOutputs_1
abbrev ps : Mk := sS (sP [])
abbrev rs : Mk := sB []
abbrev mr : Mk := n3 (sB (n3 []))
def C (k : Nat) : List (Ent PG R) := [blob_Within.en k]
def fn (k : Nat) (x : (BA × N2 × U1)) (S : LL) (K : Kt R (Bool × U1)) : Option R :=
 objAt S x.2.1.1 fun ty c1 => ldStr c1 x.2.1.2 fun s2 => blob_Within.fn k (s2,x.1,()) S K
def en (k : Nat) : Ent PG R := mkFn T_ok Tryz.func150 ps rs (C k) (.seq .auto (.seq (.own [(0,1)]) (.mask mr .auto))) ⟨tr,tr,tr⟩ (fn k)
end G.action_checkOutputs_1
namespace G.slices_IndexFunc_s_string_string_at_action_checkOutputs_1
abbrev ps : Mk := sL 1 (sh (.fn 150 [.ptr]) [])
abbrev rs : Mk := sI []
abbrev e0 : Mk := nM 19 []
abbrev m0 : Mk := sL 1 (sh (.fn 150 [.ptr]) (n5 (sI (sI (nX [])))))
abbrev mr : Mk := n4 (sI (nM 14 []))
abbrev T0 := LL × (N2 × U1) × Int × Int × U1
def C (k : Nat) : List (Ent PG R) := [action_checkOutputs_1.en k]
def b0 (k : Nat) (J0 : Kt R (U1)) (Jret : Kt R (Int × U1)) (rec : Kt R T0) (x : T0) (S : LL) : Option R :=
 ifB (decide (x.2.2.2.1 < x.2.2.1)) (idxL x.1 x.2.2.2.1 fun v1 => asStr (leaf v1 0) fun s2 => action_checkOutputs_1.fn k (s2,x.2.1) S fun r3 S => ifB r3.1 (Jret x.2.2.2 S) (rec (x.1,x.2.1,x.2.2.1,(IntKind.wrap .i64 (x.2.2.2.1 + 1)),()) S)) (J0 (()) S)
def L0 (k : Nat) : Pc PG R (.loop (su Tryz.f67 37)) := mkLoop T_ok (C k) _ m0 k (.seq .auto (.seq (.cond .auto (.mask e0 .auto)) (.seq (.block (.seq .auto (.seq .auto (.cond (.seq .auto (.mask mr .auto)) .auto)))) .auto))) ⟨tr,⟨tr,tr⟩,⟨tr,tr,⟨tr,tr⟩,tr⟩,tr⟩ (fun K => b0 k (kX K 0 e0) (kR K mr))
def fn (k : Nat) (x : (LL × (N2 × U1) × U1)) (S : LL) (K : Kt R (Int × U1)) : Option R :=
 rounds (b0 k (fun o4 S => K (-1,()) S) K) k (x.1,x.2.1,(x.1.length : Int),0,()) S
def en (k : Nat) : Ent PG R := mkFn T_ok Tryz.func67 ps rs (C k) (.seq .auto (.seq (.seq .auto (.block (.piece (L0 k).h))) (.seq .auto (.mask mr .auto)))) ⟨tr,⟨tr,(L0 k).ok⟩,tr,tr⟩ (fn k)
end G.slices_IndexFunc_s_string_string_at_action_checkOutputs_1
namespace G.slices_ContainsFunc_s_string_string_at_action_checkOutputs_1
abbrev ps : Mk := sL 1 (sh (.fn 150 [.ptr]) [])
abbrev rs : Mk := sB []
abbrev mr : Mk := n4 (sB (n4 []))
def C (k : Nat) : List (Ent PG R) := [slices_IndexFunc_s_string_string_at_action_checkOutputs_1.en k]
def fn (k : Nat) (x : (LL × (N2 × U1) × U1)) (S : LL) (K : Kt R (Bool × U1)) : Option R :=
 slices_IndexFunc_s_string_string_at_action_checkOutputs_1.fn k x S fun r1 S => K ((decide (r1.1 ≥ 0)),()) S
def en (k : Nat) : Ent PG R := mkFn T_ok Tryz.func37 ps rs (C k) (.seq .auto (.seq .auto (.mask mr .auto))) ⟨tr,tr,tr⟩ (fn k)
end G.slices_ContainsFunc_s_string_string_at_action_checkOutputs_1
namespace G.action_checkOutputs
abbrev ps : Mk := sL 1 []
abbrev rs : Mk := sI []
abbrev e0 : Mk := sL 1 (nM 44 [])
abbrev e2 : Mk := nM 45 []
abbrev m0 : Mk := sL 1 (nM 12 (sL 1 (sI (sI (nM 29 [])))))
abbrev m1 : Mk := sL 1 (nM 34 (sL 1 (sI (sI (n7 [])))))
abbrev mr : Mk := n2 (sI (nM 42 []))
abbrev T1 := Int × U1
abbrev T0 := LL × LL × Int × Int × U1
def C (k : Nat) : List (Ent PG R) := [blob_IsPath.en k,slices_ContainsFunc_s_string_string_at_action_checkOutputs_1.en k]
def b1 (k : Nat) (J2 : Kt R (U1)) (Jret : Kt R T1) (rec : Kt R T0) (x : T0) (S : LL) : Option R :=
 ifB (decide (x.2.2.2.1 < x.2.2.1)) (idxL x.2.1 x.2.2.2.1 fun v7 => asStr (leaf v7 0) fun s8 => newObj S (.obj 9 [(.str (bs []))]) fun i9 S => objAt S i9 fun ty c10 => stO c10 0 [(.str s8)] fun c11 => setS (S.set i9 (ty c11)) fun S => slices_ContainsFunc_s_string_string_at_action_checkOutputs_1.fn k (x.1,((i9,0),()),()) S fun r12 S => ifB r12.1 (Jret ((12 : Int),()) S) (rec (x.1,x.2.1,x.2.2.1,(IntKind.wrap .i64 (x.2.2.2.1 + 1)),()) S)) (J2 (()) S)
def L1 (k : Nat) : Pc PG R (.loop (su Tryz.f106 303)) := mkLoop T_ok (C k) _ m1 k (.seq .auto (.seq (.cond .auto (.mask e2 .auto)) (.seq (.block (.seq (.own [(2,1),(3,1)]) (.seq .auto (.cond (.seq .auto (.mask mr .auto)) .auto)))) .auto))) ⟨tr,⟨tr,tr⟩,⟨tr,tr,⟨tr,tr⟩,tr⟩,tr⟩ (fun K => b1 k (kX K 2 e2) (kR K mr))
def b0 (k : Nat) (J0 : Kt R (LL × U1)) (Jret : Kt R T1) (rec : Kt R T0) (x : T0) (S : LL) : Option R :=
 ifB (decide (x.2.2.2.1 < x.2.2.1)) (idxL x.2.1 x.2.2.2.1 fun v1 => asStr (leaf v1 0) fun s2 => blob_IsPath.fn k (s2,()) S fun r3 S => ifB (!r3.1) (Jret ((3 : Int),()) S) (ifB (decide (x.2.2.2.1 > 0)) (idxL x.1 (IntKind.wrap .i64 (x.2.2.2.1 - 1)) fun v4 => asStr (leaf v4 0) fun s5 => ifB (strLt s2 s5 || strEq s2 s5) (Jret ((8 : Int),()) S) (rec (x.1,x.2.1,x.2.2.1,(IntKind.wrap .i64 (x.2.2.2.1 + 1)),()) S)) (rec (x.1,x.2.1,x.2.2.1,(IntKind.wrap .i64 (x.2.2.2.1 + 1)),()) S))) (J0 (x.1,()) S)
def L0 (k : Nat) : Pc PG R (.loop (su Tryz.f106 151)) := mkLoop T_ok (C k) _ m0 k (.seq .auto (.seq (.cond .auto (.mask e0 .auto)) (.seq (.block (.seq .auto (.seq (.seq .auto (.cond (.seq .auto (.mask mr .auto)) .auto)) (.seq .auto (.cond (.seq .auto (.mask mr .auto)) .auto))))) .auto))) ⟨tr,⟨tr,tr⟩,⟨tr,⟨tr,⟨tr,tr⟩,tr⟩,tr,⟨tr,tr⟩,tr⟩,tr⟩ (fun K => b0 k (kX K 0 e0) (kR K mr))
def fn0 (k : Nat) (x : (LL × U1)) (S : LL) (K : Kt R T1) : Option R :=
 ifB ((x.1.length : Int) == 0) (K (9,()) S) (ifB (decide ((x.1.length : Int) > 100)) (K (2,()) S) (rounds (b0 k (fun o6 S => rounds (b1 k (fun o13 S => K (0,()) S) K) k (o6.1,o6.1,(o6.1.length : Int),0,()) S) K) k (x.1,x.1,(x.1.length : Int),0,()) S))
def en0 (k : Nat) : Ent PG R := mkFn T_ok Tryz.func106 ps rs (C k) (.seq .auto (.seq (.seq .auto (.cond (.seq .auto (.mask mr .auto)) .auto)) (.seq (.seq .auto (.cond (.seq .auto (.mask mr .auto)) .auto)) (.seq (.seq .auto (.block (.piece (L0 k).h))) (.seq (.seq .auto (.block (.piece (L1 k).h))) (.seq .auto (.mask mr .auto))))))) ⟨tr,⟨tr,⟨tr,tr⟩,tr⟩,⟨tr,⟨tr,tr⟩,tr⟩,⟨tr,(L0 k).ok⟩,⟨tr,(L1 k).ok⟩,tr,tr⟩ (fn0 k)
def fn (k : Nat) (x : (LL × U1)) (S : LL) (K : Kt R T1) : Option R := popK rs 6 S (fn0 k x S fun r S => some (resE rs r,S)) K
def en (k : Nat) : Ent PG R := mkPop (rs := rs) (en0 k).ok
end G.action_checkOutputs
namespace G.action_CheckAction
abbrev ps : Mk := sA [.str,.sl 1,.sl 2,.sl 1,.sl 2,jI] []
abbrev rs : Mk := sI []
abbrev e0 : Mk := n1 (sX [.str,.sl 1,.sl 2,.sl 1,.sl 2,jI] (nM 58 []))
abbrev m0 : Mk := n1 (sX [.str,.sl 1,.sl 2,.sl 1,.sl 2,jI] (nM 20 (sL 1 (sI (sI (nM 35 []))))))
abbrev mr : Mk := n2 (sI (nM 57 []))
abbrev T1 := (BA × LL × LL × LL × LL × Int × U1) × U1
abbrev T0 := (BA × LL × LL × LL × LL × Int × U1) × LL × Int × Int × U1
def C (k : Nat) : List (Ent PG R) := [blob_IsDigest.en k,action_checkCommand.en k,action_checkVars.en k,action_checkOutputs.en k]
def b0 (k : Nat) (J0 : Kt R T1) (Jret : Kt R (Int × U1)) (rec : Kt R T0) (x : T0) (S : LL) : Option R :=
 ifB (decide (x.2.2.2.1 < x.2.2.1)) (idxL x.2.1 x.2.2.2.1 fun v2 => asSl 1 (leaf v2 0) fun l3 => action_checkCommand.fn k (l3,()) S fun r4 S => ifB (r4.1 != 0) (Jret r4 S) (rec (x.1,x.2.1,x.2.2.1,(IntKind.wrap .i64 (x.2.2.2.1 + 1)),()) S)) (J0 (x.1,()) S)
def L0 (k : Nat) : Pc PG R (.loop (su Tryz.f75 303)) := mkLoop T_ok (C k) _ m0 k (.seq .auto (.seq (.cond .auto (.mask e0 .auto)) (.seq (.block (.seq .auto (.seq .auto (.seq .auto (.cond (.seq .auto (.mask mr .auto)) .auto))))) .auto))) ⟨tr,⟨tr,tr⟩,⟨tr,tr,tr,⟨tr,tr⟩,tr⟩,tr⟩ (fun K => b0 k (kX K 0 e0) (kR K mr))
def fn (k : Nat) (x : T1) (S : LL) (K : Kt R (Int × U1)) : Option R :=
 blob_IsDigest.fn k (x.1.1,()) S fun r1 S => ifB (!r1.1) (K (3,()) S) (ifB ((x.1.2.1.length : Int) == 0) (K (9,()) S) (ifB (decide ((x.1.2.1.length : Int) > 50)) (K (2,()) S) (rounds (b0 k (fun o5 S => action_checkVars.fn k (o5.1.2.2.1,()) S fun r6 S => ifB (r6.1 != 0) (K r6 S) (action_checkOutputs.fn k (o5.1.2.2.2.1,()) S fun r7 S => ifB (r7.1 != 0) (K r7 S) (action_checkVars.fn k (o5.1.2.2.2.2.1,()) S fun r8 S => ifB (r8.1 != 0) (K r8 S) (ifB (decide (o5.1.2.2.2.2.2.1 < 1)) (K (1,()) S) (ifB (decide (o5.1.2.2.2.2.2.1 > 100000)) (K (1,()) S) (K (0,()) S)))))) K) k (x.1,x.1.2.1,(x.1.2.1.length : Int),0,()) S)))
def en (k : Nat) : Ent PG R := mkFn T_ok Tryz.func75 ps rs (C k) (.seq .auto (.seq (.seq .auto (.cond (.seq .auto (.mask mr .auto)) .auto)) (.seq (.seq .auto (.cond (.seq .auto (.mask mr .auto)) .auto)) (.seq (.seq .auto (.cond (.seq .auto (.mask mr .auto)) .auto)) (.seq (.seq .auto (.block (.piece (L0 k).h))) (.seq (.seq .auto (.seq .auto (.cond (.seq .auto (.mask mr .auto)) .auto))) (.seq (.seq .auto (.seq .auto (.cond (.seq .auto (.mask mr .auto)) .auto))) (.seq (.seq .auto (.seq .auto (.cond (.seq .auto (.mask mr .auto)) .auto))) (.seq (.seq .auto (.cond (.seq .auto (.mask mr .auto)) .auto)) (.seq .auto (.mask mr .auto))))))))))) ⟨tr,⟨tr,⟨tr,tr⟩,tr⟩,⟨tr,⟨tr,tr⟩,tr⟩,⟨tr,⟨tr,tr⟩,tr⟩,⟨tr,(L0 k).ok⟩,⟨tr,tr,⟨tr,tr⟩,tr⟩,⟨tr,tr,⟨tr,tr⟩,tr⟩,⟨tr,tr,⟨tr,tr⟩,tr⟩,⟨tr,⟨tr,tr⟩,tr⟩,tr,tr⟩ (fn k)
end G.action_CheckAction
namespace G.steps_checkRule
abbrev ps : Mk := sA [.str,.str,.sl 1,.sl 2,.sl 1,.sl 2,jI,.sl 1] []
abbrev rs : Mk := sI []
abbrev e0 : Mk := nM 44 []
abbrev m0 : Mk := n1 (sX [.str,.str,.sl 1,.sl 2,.sl 1,.sl 2,jI,.sl 1] (nM 19 (sL 1 (sI (sI (nM 20 []))))))
abbrev mr : Mk := n2 (sI (nM 41 []))
abbrev T0 := (BA × BA × LL × LL × LL × LL × Int × LL × U1) × LL × Int × Int × U1
def C (k : Nat) : List (Ent PG R) := [blob_IsPath.en k,action_CheckAction.en k]
def b0 (k : Nat) (J0 : Kt R (U1)) (Jret : Kt R (Int × U1)) (rec : Kt R T0) (x : T0) (S : LL) : Option R :=
 ifB (decide (x.2.2.2.1 < x.2.2.1)) (idxL x.2.1 x.2.2.2.1 fun v3 => asStr (leaf v3 0) fun s4 => blob_IsPath.fn k (s4,()) S fun r5 S => ifB (!r5.1) (Jret ((3 : Int),()) S) (ifB (decide (x.2.2.2.1 > 0)) (idxL x.1.2.2.2.2.2.2.2.1 (IntKind.wrap .i64 (x.2.2.2.1 - 1)) fun v6 => asStr (leaf v6 0) fun s7 => ifB (strLt s4 s7 || strEq s4 s7) (Jret ((8 : Int),()) S) (rec (x.1,x.2.1,x.2.2.1,(IntKind.wrap .i64 (x.2.2.2.1 + 1)),()) S)) (rec (x.1,x.2.1,x.2.2.1,(IntKind.wrap .i64 (x.2.2.2.1 + 1)),()) S))) (J0 (()) S)
def L0 (k : Nat) : Pc PG R (.loop (su Tryz.f48 303)) := mkLoop T_ok (C k) _ m0 k (.seq .auto (.seq (.cond .auto (.mask e0 .auto)) (.seq (.block (.seq .auto (.seq (.seq .auto (.cond (.seq .auto (.mask mr .auto)) .auto)) (.seq .auto (.cond (.seq .auto (.mask mr .auto)) .auto))))) .auto))) ⟨tr,⟨tr,tr⟩,⟨tr,⟨tr,⟨tr,tr⟩,tr⟩,tr,⟨tr,tr⟩,tr⟩,tr⟩ (fun K => b0 k (kX K 0 e0) (kR K mr))
def fn (k : Nat) (x : ((BA × BA × LL × LL × LL × LL × Int × LL × U1) × U1)) (S : LL) (K : Kt R (Int × U1)) : Option R :=
 blob_IsPath.fn k (x.1.1,()) S fun r1 S => ifB (!r1.1) (K (3,()) S) (action_CheckAction.fn k ((x.1.2.1,x.1.2.2.1,x.1.2.2.2.1,x.1.2.2.2.2.1,x.1.2.2.2.2.2.1,x.1.2.2.2.2.2.2.1,()),()) S fun r2 S => ifB (r2.1 != 0) (K r2 S) (ifB (decide ((x.1.2.2.2.2.2.2.2.1.length : Int) > 1000)) (K (2,()) S) (rounds (b0 k (fun o8 S => K (0,()) S) K) k (x.1,x.1.2.2.2.2.2.2.2.1,(x.1.2.2.2.2.2.2.2.1.length : Int),0,()) S)))
def en (k : Nat) : Ent PG R := mkFn T_ok Tryz.func48 ps rs (C k) (.seq .auto (.seq (.seq .auto (.cond (.seq .auto (.mask mr .auto)) .auto)) (.seq (.seq .auto (.seq .auto (.cond (.seq .auto (.mask mr .auto)) .auto))) (.seq (.seq .auto (.cond (.seq .auto (.mask mr .auto)) .auto)) (.seq (.seq .auto (.block (.piece (L0 k).h))) (.seq .auto (.mask mr .auto))))))) ⟨tr,⟨tr,⟨tr,tr⟩,tr⟩,⟨tr,tr,⟨tr,tr⟩,tr⟩,⟨tr,⟨tr,tr⟩,tr⟩,⟨tr,(L0 k).ok⟩,tr,tr⟩ (fn k)
end G.steps_checkRule
namespace G.steps_above
abbrev ps : Mk := sS []
abbrev rs : Mk := sO 9 1 []
abbrev e0 : Mk := n3 (sO 9 1 (nM 18 []))
abbrev m0 : Mk := sS (n2 (sO 9 1 (n2 (sI (sI (nM 14 []))))))
abbrev mr : Mk := n2 (sO 9 1 (nM 19 []))
abbrev T0 := BA × LL × Int × Int × U1
def C (k : Nat) : List (Ent PG R) := []
def b0 (k : Nat) (J0 : Kt R (LL × U1)) (rec : Kt R T0) (x : T0) (S : LL) : Option R :=
 ifB (decide (x.2.2.2.1 < x.2.2.1)) (idxStr x.1 x.2.2.2.1 fun c1 => ifB (c1 == 47) (slStr x.1 (0 : Int) x.2.2.2.1 fun s2 => app 16 x.2.1 [(.str s2)] fun l3 => rec (x.1,l3,x.2.2.1,(IntKind.wrap .i64 (x.2.2.2.1 + 1)),()) S) (rec (x.1,x.2.1,x.2.2.1,(IntKind.wrap .i64 (x.2.2.2.1 + 1)),()) S)) (J0 (x.2.1,()) S)
def L0 (k : Nat) : Pc PG R (.loop (su Tryz.f76 75)) := mkLoop T_ok (C k) _ m0 k (.seq .auto (.seq (.cond .auto (.mask e0 .auto)) (.seq (.block (.seq .auto (.seq .auto (.cond (.own [(0,1)]) .auto)))) .auto))) ⟨tr,⟨tr,tr⟩,⟨tr,tr,tr,tr⟩,tr⟩ (fun K => b0 k (kX K 0 e0))
def fn (k : Nat) (x : (BA × U1)) (S : LL) (K : Kt R (LL × U1)) : Option R :=
 rounds (b0 k K) k (x.1,[],(x.1.size : Int),0,()) S
def en (k : Nat) : Ent PG R := mkFn T_ok Tryz.func76 ps rs (C k) (.seq .auto (.seq .auto (.seq (.seq .auto (.block (.piece (L0 k).h))) (.seq (.own [(0,1)]) (.mask mr .auto))))) ⟨tr,tr,⟨tr,(L0 k).ok⟩,tr,tr⟩ (fn k)
end G.steps_above
namespace G.steps_tangleOf
abbrev ps : Mk := sL 8 []
abbrev rs : Mk := sA [.map,.map,.map,.map] []
abbrev e0 : Mk := n2 (sX [.nilm,.nilm,.nilm,.nilm] (sX [.map,.map,.map,.map] (nM 68 [])))
abbrev e2 : Mk := n2 (sX [.nilm,.nilm,.nilm,.nilm] (sX [.map,.map,.map,.map] (n1 (sX [.str,.str,.sl 1,.sl 2,.sl 1,.sl 2,jI,.sl 1] (nM 13 (sL 8 (sI (sI (nM 50 [])))))))))
abbrev e4 : Mk := n2 (sX [.nilm,.nilm,.nilm,.nilm] (sX [.map,.map,.map,.map] (n1 (sX [.str,.str,.sl 1,.sl 2,.sl 1,.sl 2,jI,.sl 1] (nM 13 (sL 8 (sI (sI (n5 (sL 1 (sI (sI (nM 42 [])))))))))))))
abbrev e6 : Mk := n2 (sX [.nilm,.nilm,.nilm,.nilm] (sX [.map,.map,.map,.map] (nM 15 (sL 8 (sI (sI (nM 50 [])))))))
abbrev e8 : Mk := n2 (sX [.nilm,.nilm,.nilm,.nilm] (sX [.map,.map,.map,.map] (nM 15 (sL 8 (sI (sI (nM 27 (sL 1 (sI (sI (nM 20 [])))))))))))
abbrev m2 : Mk := n2 (sX [.nilm,.nilm,.nilm,.nilm] (sX [.map,.map,.map,.map] (n1 (sX [.str,.str,.sl 1,.sl 2,.sl 1,.sl 2,jI,.sl 1] (nM 13 (sL 8 (sI (sI (n5 (sL 1 (sI (sI (n7 (sO 9 1 (sI (sI (nM 32 [])))))))))))))))))
abbrev m4 : Mk := n2 (sX [.nilm,.nilm,.nilm,.nilm] (sX [.map,.map,.map,.map] (nM 15 (sL 8 (sI (sI (nM 27 (sL 1 (sI (sI (n7 (sO 9 1 (sI (sI (nX [])))))))))))))))
abbrev mr : Mk := n2 (sX [.map,.map,.map,.map] (nM 69 []))
abbrev T6 := U1 × U1 × U1 × U1 × U1
abbrev T5 := Nat × Nat × Nat × Nat × U1
abbrev T4 := T6 × T5 × LL × Int × Int × U1
abbrev T3 := T6 × T5 × LL × Int × Int × LL × Int × Int × U1
abbrev T2 := T6 × T5 × LL × Int × Int × LL × Int × Int × LL × Int × Int × U1
abbrev T1 := T6 × T5 × (BA × BA × LL × LL × LL × LL × Int × LL × U1) × LL × Int × Int × LL × Int × Int × U1
abbrev T0 := T6 × T5 × (BA × BA × LL × LL × LL × LL × Int × LL × U1) × LL × Int × Int × LL × Int × Int × LL × Int × Int × U1
def C (k : Nat) : List (Ent PG R) := [steps_above.en k]
def b2 (k : Nat) (J4 : Kt R T1) (rec : Kt R T0) (x : T0) (S : LL) : Option R :=
 ifB (decide (x.2.2.2.2.2.2.2.2.2.2.2.1 < x.2.2.2.2.2.2.2.2.2.2.1)) (idxL x.2.2.2.2.2.2.2.2.2.1 x.2.2.2.2.2.2.2.2.2.2.2.1 fun v19 => asStr (leaf v19 0) fun s20 => mpAt S x.2.1.2.2.1 .str fun m21 => setS (S.set x.2.1.2.2.1 (.mp .str (mapPut m21 (.str s20) (.bool true)))) fun S => rec (((),(),(),(),()),x.2.1,x.2.2.1,x.2.2.2.1,x.2.2.2.2.1,x.2.2.2.2.2.1,x.2.2.2.2.2.2.1,x.2.2.2.2.2.2.2.1,x.2.2.2.2.2.2.2.2.1,x.2.2.2.2.2.2.2.2.2.1,x.2.2.2.2.2.2.2.2.2.2.1,(IntKind.wrap .i64 (x.2.2.2.2.2.2.2.2.2.2.2.1 + 1)),()) S) (J4 (((),(),(),(),()),x.2.1,x.2.2.1,x.2.2.2.1,x.2.2.2.2.1,x.2.2.2.2.2.1,x.2.2.2.2.2.2.1,x.2.2.2.2.2.2.2.1,x.2.2.2.2.2.2.2.2.1,()) S)
def L2 (k : Nat) : Pc PG R (.loop (su Tryz.f49 20550859)) := mkLoop T_ok (C k) _ m2 k (.seq .auto (.seq (.cond .auto (.mask e4 .auto)) (.seq (.block (.seq .auto .auto)) .auto))) ⟨tr,⟨tr,tr⟩,⟨tr,tr⟩,tr⟩ (fun K => b2 k (kX K 4 e4))
def b4 (k : Nat) (J8 : Kt R T3) (rec : Kt R T2) (x : T2) (S : LL) : Option R :=
 ifB (decide (x.2.2.2.2.2.2.2.2.2.2.1 < x.2.2.2.2.2.2.2.2.2.1)) (idxL x.2.2.2.2.2.2.2.2.1 x.2.2.2.2.2.2.2.2.2.2.1 fun v28 => asStr (leaf v28 0) fun s29 => mpAt S x.2.1.2.2.2.1 .str fun m30 => setS (S.set x.2.1.2.2.2.1 (.mp .str (mapPut m30 (.str s29) (.bool true)))) fun S => rec (((),(),(),(),()),x.2.1,x.2.2.1,x.2.2.2.1,x.2.2.2.2.1,x.2.2.2.2.2.1,x.2.2.2.2.2.2.1,x.2.2.2.2.2.2.2.1,x.2.2.2.2.2.2.2.2.1,x.2.2.2.2.2.2.2.2.2.1,(IntKind.wrap .i64 (x.2.2.2.2.2.2.2.2.2.2.1 + 1)),()) S) (J8 (((),(),(),(),()),x.2.1,x.2.2.1,x.2.2.2.1,x.2.2.2.2.1,x.2.2.2.2.2.1,x.2.2.2.2.2.2.1,x.2.2.2.2.2.2.2.1,()) S)
def L4 (k : Nat) : Pc PG R (.loop (su Tryz.f49 20552907)) := mkLoop T_ok (C k) _ m4 k (.seq .auto (.seq (.cond .auto (.mask e8 .auto)) (.seq (.block (.seq .auto .auto)) .auto))) ⟨tr,⟨tr,tr⟩,⟨tr,tr⟩,tr⟩ (fun K => b4 k (kX K 8 e8))
def b1 (k : Nat) (J2 : Kt R (T6 × T5 × (BA × BA × LL × LL × LL × LL × Int × LL × U1) × LL × Int × Int × U1)) (rec : Kt R T1) (x : T1) (S : LL) : Option R :=
 ifB (decide (x.2.2.2.2.2.2.2.2.1 < x.2.2.2.2.2.2.2.1)) (idxL x.2.2.2.2.2.2.1 x.2.2.2.2.2.2.2.2.1 fun v15 => asStr (leaf v15 0) fun s16 => mpAt S x.2.1.1 .str fun m17 => setS (S.set x.2.1.1 (.mp .str (mapPut m17 (.str s16) (.bool true)))) fun S => steps_above.fn k (s16,()) S fun r18 S => rounds (b2 k (fun o22 S => rec (((),(),(),(),()),o22.2.1,o22.2.2.1,o22.2.2.2.1,o22.2.2.2.2.1,o22.2.2.2.2.2.1,o22.2.2.2.2.2.2.1,o22.2.2.2.2.2.2.2.1,(IntKind.wrap .i64 (o22.2.2.2.2.2.2.2.2.1 + 1)),()) S)) k (((),(),(),(),()),x.2.1,x.2.2.1,x.2.2.2.1,x.2.2.2.2.1,x.2.2.2.2.2.1,x.2.2.2.2.2.2.1,x.2.2.2.2.2.2.2.1,x.2.2.2.2.2.2.2.2.1,r18.1,(r18.1.length : Int),0,()) S) (J2 (((),(),(),(),()),x.2.1,x.2.2.1,x.2.2.2.1,x.2.2.2.2.1,x.2.2.2.2.2.1,()) S)
def L1 (k : Nat) : Pc PG R (.loop (su Tryz.f49 38091)) := mkLoop T_ok (C k) _ e4 k (.seq .auto (.seq (.cond .auto (.mask e2 .auto)) (.seq (.block (.seq .auto (.seq .auto (.seq .auto (.block (.piece (L2 k).h)))))) .auto))) ⟨tr,⟨tr,tr⟩,⟨tr,tr,tr,(L2 k).ok⟩,tr⟩ (fun K => b1 k (kX K 2 e2))
def b3 (k : Nat) (J6 : Kt R T4) (rec : Kt R T3) (x : T3) (S : LL) : Option R :=
 ifB (decide (x.2.2.2.2.2.2.2.1 < x.2.2.2.2.2.2.1)) (idxL x.2.2.2.2.2.1 x.2.2.2.2.2.2.2.1 fun v24 => asStr (leaf v24 0) fun s25 => mpAt S x.2.1.2.1 .str fun m26 => setS (S.set x.2.1.2.1 (.mp .str (mapPut m26 (.str s25) (.bool true)))) fun S => steps_above.fn k (s25,()) S fun r27 S => rounds (b4 k (fun o31 S => rec (((),(),(),(),()),o31.2.1,o31.2.2.1,o31.2.2.2.1,o31.2.2.2.2.1,o31.2.2.2.2.2.1,o31.2.2.2.2.2.2.1,(IntKind.wrap .i64 (o31.2.2.2.2.2.2.2.1 + 1)),()) S)) k (((),(),(),(),()),x.2.1,x.2.2.1,x.2.2.2.1,x.2.2.2.2.1,x.2.2.2.2.2.1,x.2.2.2.2.2.2.1,x.2.2.2.2.2.2.2.1,r27.1,(r27.1.length : Int),0,()) S) (J6 (((),(),(),(),()),x.2.1,x.2.2.1,x.2.2.2.1,x.2.2.2.2.1,()) S)
def L3 (k : Nat) : Pc PG R (.loop (su Tryz.f49 40139)) := mkLoop T_ok (C k) _ e8 k (.seq .auto (.seq (.cond .auto (.mask e6 .auto)) (.seq (.block (.seq .auto (.seq .auto (.seq .auto (.block (.piece (L4 k).h)))))) .auto))) ⟨tr,⟨tr,tr⟩,⟨tr,tr,tr,(L4 k).ok⟩,tr⟩ (fun K => b3 k (kX K 6 e6))
def b0 (k : Nat) (J0 : Kt R (T6 × T5 × U1)) (rec : Kt R T4) (x : T4) (S : LL) : Option R :=
 ifB (decide (x.2.2.2.2.1 < x.2.2.2.1)) (idxL x.2.2.1 x.2.2.2.2.1 fun v5 => mat 8 v5 fun c6 => asStr (c6.getD 0 .any) fun s7 => asStr (c6.getD 1 .any) fun s8 => asSl 1 (c6.getD 2 .any) fun l9 => asSl 2 (c6.getD 3 .any) fun l10 => asSl 1 (c6.getD 4 .any) fun l11 => asSl 2 (c6.getD 5 .any) fun l12 => asInt .i64 (c6.getD 6 .any) fun n13 => asSl 1 (c6.getD 7 .any) fun l14 => rounds (b1 k (fun o23 S => rounds (b3 k (fun o32 S => rec (((),(),(),(),()),o32.2.1,o32.2.2.1,o32.2.2.2.1,(IntKind.wrap .i64 (o32.2.2.2.2.1 + 1)),()) S)) k (((),(),(),(),()),o23.2.1,o23.2.2.2.1,o23.2.2.2.2.1,o23.2.2.2.2.2.1,o23.2.2.1.2.2.2.2.2.2.2.1,(o23.2.2.1.2.2.2.2.2.2.2.1.length : Int),0,()) S)) k (((),(),(),(),()),x.2.1,(s7,s8,l9,l10,l11,l12,n13,l14,()),x.2.2.1,x.2.2.2.1,x.2.2.2.2.1,l11,(l11.length : Int),0,()) S) (J0 (((),(),(),(),()),x.2.1,()) S)
def L0 (k : Nat) : Pc PG R (.loop (su Tryz.f49 75)) := mkLoop T_ok (C k) _ e6 k (.seq .auto (.seq (.cond .auto (.mask e0 .auto)) (.seq (.block (.seq .auto (.seq (.seq .auto (.block (.piece (L1 k).h))) (.seq .auto (.block (.piece (L3 k).h)))))) .auto))) ⟨tr,⟨tr,tr⟩,⟨tr,⟨tr,(L1 k).ok⟩,tr,(L3 k).ok⟩,tr⟩ (fun K => b0 k (kX K 0 e0))
def fn (k : Nat) (x : (LL × U1)) (S : LL) (K : Kt R (T5 × U1)) : Option R :=
 newObj S (.mp .str []) fun i1 S => newObj S (.mp .str []) fun i2 S => newObj S (.mp .str []) fun i3 S => newObj S (.mp .str []) fun i4 S => rounds (b0 k (fun o33 S => K o33.2 S)) k (((),(),(),(),()),(i1,i2,i3,i4,()),x.1,(x.1.length : Int),0,()) S
def en (k : Nat) : Ent PG R := mkFn T_ok Tryz.func49 ps rs (C k) (.seq .auto (.seq .auto (.seq (.seq .auto (.block (.piece (L0 k).h))) (.seq .auto (.mask mr .auto))))) ⟨tr,tr,⟨tr,(L0 k).ok⟩,tr,tr⟩ (fn k)
end G.steps_tangleOf
namespace G.steps_tangle_clashes_1
abbrev ps : Mk := sS (sP [])
abbrev rs : Mk := sB []
abbrev mr : Mk := n3 (sB (nX []))
def C (k : Nat) : List (Ent PG R) := []
def fn (k : Nat) (x : (BA × N2 × U1)) (S : LL) (K : Kt R (Bool × U1)) : Option R :=
 objAt S x.2.1.1 fun ty c1 => ldRaw c1 (x.2.1.2 + 0) fun v2 => asMap v2 fun i3 => mpAt S i3 .str fun m4 => asBool ((mapGet m4 (.str x.1)).getD (.bool false)) fun b5 => ifB b5 (K (true,()) S) (objAt S x.2.1.1 fun ty c6 => ldRaw c6 (x.2.1.2 + 1) fun v7 => asMap v7 fun i8 => mpAt S i8 .str fun m9 => asBool ((mapGet m9 (.str x.1)).getD (.bool false)) fun b10 => K (b10,()) S)
def en (k : Nat) : Ent PG R := mkFn T_ok Tryz.func77 ps rs (C k) (.seq .auto (.seq (.own [(1,3),(6,3)]) (.mask mr .auto))) ⟨tr,tr,tr⟩ (fn k)
end G.steps_tangle_clashes_1
namespace G.slices_IndexFunc_s_string_string_at_steps_tangle_clashes_1
abbrev ps : Mk := sL 1 (sh (.fn 77 [.ptr]) [])
abbrev rs : Mk := sI []
abbrev e0 : Mk := nM 19 []
abbrev m0 : Mk := sL 1 (sh (.fn 77 [.ptr]) (n5 (sI (sI (nX [])))))
abbrev mr : Mk := n4 (sI (nM 14 []))
abbrev T0 := LL × (N2 × U1) × Int × Int × U1
def C (k : Nat) : List (Ent PG R) := [steps_tangle_clashes_1.en k]
def b0 (k : Nat) (J0 : Kt R (U1)) (Jret : Kt R (Int × U1)) (rec : Kt R T0) (x : T0) (S : LL) : Option R :=
 ifB (decide (x.2.2.2.1 < x.2.2.1)) (idxL x.1 x.2.2.2.1 fun v1 => asStr (leaf v1 0) fun s2 => steps_tangle_clashes_1.fn k (s2,x.2.1) S fun r3 S => ifB r3.1 (Jret x.2.2.2 S) (rec (x.1,x.2.1,x.2.2.1,(IntKind.wrap .i64 (x.2.2.2.1 + 1)),()) S)) (J0 (()) S)
def L0 (k : Nat) : Pc PG R (.loop (su Tryz.f67 37)) := mkLoop T_ok (C k) _ m0 k (.seq .auto (.seq (.cond .auto (.mask e0 .auto)) (.seq (.block (.seq .auto (.seq .auto (.cond (.seq .auto (.mask mr .auto)) .auto)))) .auto))) ⟨tr,⟨tr,tr⟩,⟨tr,tr,⟨tr,tr⟩,tr⟩,tr⟩ (fun K => b0 k (kX K 0 e0) (kR K mr))
def fn (k : Nat) (x : (LL × (N2 × U1) × U1)) (S : LL) (K : Kt R (Int × U1)) : Option R :=
 rounds (b0 k (fun o4 S => K (-1,()) S) K) k (x.1,x.2.1,(x.1.length : Int),0,()) S
def en (k : Nat) : Ent PG R := mkFn T_ok Tryz.func67 ps rs (C k) (.seq .auto (.seq (.seq .auto (.block (.piece (L0 k).h))) (.seq .auto (.mask mr .auto)))) ⟨tr,⟨tr,(L0 k).ok⟩,tr,tr⟩ (fn k)
end G.slices_IndexFunc_s_string_string_at_steps_tangle_clashes_1
namespace G.slices_ContainsFunc_s_string_string_at_steps_tangle_clashes_1
abbrev ps : Mk := sL 1 (sh (.fn 77 [.ptr]) [])
abbrev rs : Mk := sB []
abbrev mr : Mk := n4 (sB (n4 []))
def C (k : Nat) : List (Ent PG R) := [slices_IndexFunc_s_string_string_at_steps_tangle_clashes_1.en k]
def fn (k : Nat) (x : (LL × (N2 × U1) × U1)) (S : LL) (K : Kt R (Bool × U1)) : Option R :=
 slices_IndexFunc_s_string_string_at_steps_tangle_clashes_1.fn k x S fun r1 S => K ((decide (r1.1 ≥ 0)),()) S
def en (k : Nat) : Ent PG R := mkFn T_ok Tryz.func37 ps rs (C k) (.seq .auto (.seq .auto (.mask mr .auto))) ⟨tr,tr,tr⟩ (fn k)
end G.slices_ContainsFunc_s_string_string_at_steps_tangle_clashes_1
namespace G.steps_tangle_clashes
abbrev ps : Mk := sA [.map,.map,.map,.map] (sS [])
abbrev rs : Mk := sB []
abbrev mr : Mk := n4 (sB (nX []))
def C (k : Nat) : List (Ent PG R) := [slices_ContainsFunc_s_string_string_at_steps_tangle_clashes_1.en k,steps_above.en k]
def fn (k : Nat) (x : ((Nat × Nat × Nat × Nat × U1) × BA × U1)) (S : LL) (K : Kt R (Bool × U1)) : Option R :=
 newObj S (.obj 92 [(.map x.1.1),(.map x.1.2.1),(.map x.1.2.2.1),(.map x.1.2.2.2.1)]) fun i1 S => objAt S i1 fun ty c2 => ldRaw c2 3 fun v3 => asMap v3 fun i4 => mpAt S i4 .str fun m5 => asBool ((mapGet m5 (.str x.2.1)).getD (.bool false)) fun b6 => ifB b6 (K (true,()) S) (steps_above.fn k x.2 S fun r7 S => slices_ContainsFunc_s_string_string_at_steps_tangle_clashes_1.fn k (r7.1,((i1,0),()),()) S K)
def en (k : Nat) : Ent PG R := mkFn T_ok Tryz.func50 ps rs (C k) (.seq (.own [(0,1)]) (.seq (.own [(1,3)]) (.mask mr .auto))) ⟨tr,tr,tr⟩ (fn k)
end G.steps_tangle_clashes
namespace G.maps_Keys_map_int_bool_int_bool
abbrev ps : Mk := sh (.lf (.map)) []
abbrev rs : Mk := sh (.fn 80 [.ptr]) []
abbrev mr : Mk := n2 (sh (.fn 80 [.ptr]) (n1 []))
def C (k : Nat) : List (Ent PG R) := []
def fn (k : Nat) (x : (Nat × U1)) (S : LL) (K : Kt R ((N2 × U1) × U1)) : Option R :=
 newObj S (.obj 94 [(.map x.1)]) fun i1 S => K (((i1,0),()),()) S
def en (k : Nat) : Ent PG R := mkFn T_ok Tryz.func52 ps rs (C k) (.seq (.own [(0,1)]) (.seq .auto (.mask mr .auto))) ⟨tr,tr,tr⟩ (fn k)
end G.maps_Keys_map_int_bool_int_bool
namespace G.steps_plan_order_nils
abbrev ps : Mk := sP (sh (.lf (.nils)) [])
abbrev rs : Mk := sO 3 1 (sB [])
abbrev c0 : Mk := sP (sh (.lf (.nils)) (n4 (sQ 1 (sQ 1 (sI (sI (nM 23 (sL 1 (sI (sI (nM 19 (sL 1 (sI (sI (nM 83 [])))))))))))))))
abbrev c1 : Mk := sP (sh (.lf (.nils)) (n4 (sQ 1 (sQ 1 (sI (sI (sL 1 (nM 22 (sL 1 (sI (sI (nM 11 (sB (nM 93 []))))))))))))))
abbrev c2 : Mk := sP (sh (.lf (.nils)) (n4 (sQ 1 (sQ 1 (sI (sI (sL 1 (nM 22 (sL 1 (sI (sI (nM 105 []))))))))))))
abbrev c4 : Mk := sP (sh (.lf (.nils)) (n4 (sQ 1 (sQ 1 (sI (sI (nM 23 (sL 1 (sI (sI (nM 19 (sL 1 (sI (sI (sB (nM 82 []))))))))))))))))
abbrev c6 : Mk := sP (sh (.lf (.nils)) (n4 (sQ 1 (sQ 1 (sI (sI (n2 (sI (nM 20 (sL 1 (sI (sI (nM 19 (sL 1 (sI (sI (nM 83 [])))))))))))))))))
abbrev c7 : Mk := n1 (sh (.lf (.nils)) (n4 (sQ 1 (sQ 1 (sI (n4 (sQ 1 (sO 3 1 (sI (nM 125 []))))))))))
abbrev z0 : Mk := sP (sh (.lf (.nils)) (n4 (sQ 1 (sQ 1 (sI (nM 24 (sL 1 (sI (sI (nM 105 []))))))))))
abbrev e0 : Mk := sP (sh (.lf (.nils)) (n4 (sQ 1 (sQ 1 (sI (nM 132 []))))))
abbrev e4 : Mk := nM 14 (sO 3 1 (nM 126 []))
abbrev e8 : Mk := n1 (sh (.lf (.nils)) (n4 (sQ 1 (sQ 1 (sI (n4 (sQ 1 (sO 3 1 (nM 126 [])))))))))
abbrev m4 : Mk := n1 (sh (.lf (.nils)) (n4 (sQ 1 (sQ 1 (sI (n4 (sQ 1 (sO 3 1 (nM 112 (sL 1 (sI (sI (nM 11 [])))))))))))))
abbrev mr : Mk := n4 (sO 3 1 (sB (nM 135 [])))
abbrev T5 := U1 × N3 × N3 × Int × N3 × LL × U1
abbrev T4 := U1 × N3 × N3 × Int × N3 × LL × Int × U1
abbrev T3 := N2 × U1 × N3 × N3 × Int × LL × Int × Int × U1
abbrev T2 := U1 × N3 × N3 × Int × N3 × LL × LL × Int × Int × U1
abbrev T1 := N2 × U1 × N3 × N3 × Int × Int × LL × LL × Int × Int × U1
abbrev T0 := N2 × U1 × N3 × N3 × Int × Int × LL × Int × Int × LL × Int × Int × U1
def C (k : Nat) : List (Ent PG R) := []
def q6 (k : Nat) (Jnrm : Kt R T0)  (x : (N2 × U1 × N3 × N3 × Int × Int × Int × LL × Int × Int × LL × Int × Int × U1)) (S : LL) : Option R :=
 idxN x.2.2.2.1.2.2 x.2.2.2.2.2.2.1 fun v18 => objAt S x.2.2.2.1.1 fun ty c19 => asOwn 3 1 (c19.getD (x.2.2.2.1.2.1 + v18 * 1) .any) fun l20 => setS (S.set x.2.2.2.1.1 (ty (c19.set (x.2.2.2.1.2.1 + v18 * 1) (.sl 1 l20)))) fun S => app 8 l20 [(.int .i64 x.2.2.2.2.2.1)] fun l21 => idxN x.2.2.2.1.2.2 x.2.2.2.2.2.2.1 fun v22 => objAt S x.2.2.2.1.1 fun ty c23 => stO c23 (x.2.2.2.1.2.1 + v22 * 1) [(.own 3 1 l21)] fun c24 => setS (S.set x.2.2.2.1.1 (ty c24)) fun S => Jnrm (x.1,(),x.2.2.1,x.2.2.2.1,x.2.2.2.2.1,x.2.2.2.2.2.1,x.2.2.2.2.2.2.2) S
def Q6 (k : Nat) : Pc PG R (su Tryz.f36 53719855) := mkEnd T_ok (C k) _ c6 c0 (.own [(5,2),(10,2)]) tr (fun x S K => q6 k (kN K c0) x S)
def q5 (k : Nat) (Jnrm : Kt R T0)  (x : T0) (S : LL) : Option R :=
 idxL x.2.2.2.2.2.2.2.2.2.1 x.2.2.2.2.2.2.2.2.2.2.2.1 fun v16 => asInt .i64 (leaf v16 0) fun n17 => q6 k (fun o25 S => Jnrm (o25.1,(),o25.2.2.1,o25.2.2.2.1,o25.2.2.2.2.1,o25.2.2.2.2.2.1,o25.2.2.2.2.2.2.1,o25.2.2.2.2.2.2.2.1,o25.2.2.2.2.2.2.2.2.1,o25.2.2.2.2.2.2.2.2.2.1,o25.2.2.2.2.2.2.2.2.2.2.1,(IntKind.wrap .i64 (o25.2.2.2.2.2.2.2.2.2.2.2.1 + 1)),()) S) (x.1,(),x.2.2.1,x.2.2.2.1,x.2.2.2.2.1,x.2.2.2.2.2.1,n17,x.2.2.2.2.2.2) S
def Q5 (k : Nat) : Pc PG R (su Tryz.f36 7582511) := mkEnd T_ok (C k) _ c0 c0 (.seq (.block (.seq .auto (.piece (Q6 k).h))) .auto) ⟨⟨tr,(Q6 k).ok⟩,tr⟩ (fun x S K => q5 k (kN K c0) x S)
def q4 (k : Nat) (Jnrm : Kt R T0) (J2 : Kt R T3) (x : (N2 × U1 × N3 × N3 × Int × Int × LL × Int × Int × LL × Int × Int × Bool × U1)) (S : LL) : Option R :=
 ifB x.2.2.2.2.2.2.2.2.2.2.2.2.1 (q5 k (fun o26 S => Jnrm (o26.1,(),o26.2.2) S) (x.1,(),x.2.2.1,x.2.2.2.1,x.2.2.2.2.1,x.2.2.2.2.2.1,x.2.2.2.2.2.2.1,x.2.2.2.2.2.2.2.1,x.2.2.2.2.2.2.2.2.1,x.2.2.2.2.2.2.2.2.2.1,x.2.2.2.2.2.2.2.2.2.2.1,x.2.2.2.2.2.2.2.2.2.2.2.1,()) S) (J2 (x.1,(),x.2.2.1,x.2.2.2.1,x.2.2.2.2.1,x.2.2.2.2.2.2.1,x.2.2.2.2.2.2.2.1,x.2.2.2.2.2.2.2.2.1,()) S)
def Q4 (k : Nat) : Pc PG R (su Tryz.f36 3388207) := mkEnd T_ok (C k) _ c4 c0 (.seq (.cond .auto (.mask z0 .auto)) (.piece (Q5 k).h)) ⟨⟨tr,tr⟩,(Q5 k).ok⟩ (fun x S K => q4 k (kN K c0) (kX K 2 z0) x S)
def b1 (k : Nat) (J2 : Kt R T3) (rec : Kt R T0) (x : T0) (S : LL) : Option R :=
 q4 k (fun o27 S => rec (o27.1,(),o27.2.2) S) (fun o28 S => J2 (o28.1,(),o28.2.2) S) (x.1,(),x.2.2.1,x.2.2.2.1,x.2.2.2.2.1,x.2.2.2.2.2.1,x.2.2.2.2.2.2.1,x.2.2.2.2.2.2.2.1,x.2.2.2.2.2.2.2.2.1,x.2.2.2.2.2.2.2.2.2.1,x.2.2.2.2.2.2.2.2.2.2.1,x.2.2.2.2.2.2.2.2.2.2.2.1,(decide (x.2.2.2.2.2.2.2.2.2.2.2.1 < x.2.2.2.2.2.2.2.2.2.2.1)),()) S
def L1 (k : Nat) : Pc PG R (.loop (su Tryz.f36 1291055)) := mkLoop T_ok (C k) _ c0 k (.seq .auto (.piece (Q4 k).h)) ⟨tr,(Q4 k).ok⟩ (fun K => b1 k (kX K 2 z0))
def b4 (k : Nat) (J8 : Kt R T5) (rec : Kt R T2) (x : T2) (S : LL) : Option R :=
 ifB (decide (x.2.2.2.2.2.2.2.2.1 < x.2.2.2.2.2.2.2.1)) (idxL x.2.2.2.2.2.2.1 x.2.2.2.2.2.2.2.2.1 fun v61 => asInt .i64 (leaf v61 0) fun n62 => idxN x.2.1.2.2 n62 fun v63 => objAt S x.2.1.1 fun ty c64 => ldInt .i64 c64 (x.2.1.2.1 + v63 * 1) fun n65 => idxN x.2.1.2.2 n62 fun v66 => objAt S x.2.1.1 fun ty c67 => stO c67 (x.2.1.2.1 + v66 * 1) [(.int .i64 (IntKind.wrap .i64 (n65 - 1)))] fun c68 => setS (S.set x.2.1.1 (ty c68)) fun S => rec ((),x.2.1,x.2.2.1,x.2.2.2.1,x.2.2.2.2.1,x.2.2.2.2.2.1,x.2.2.2.2.2.2.1,x.2.2.2.2.2.2.2.1,(IntKind.wrap .i64 (x.2.2.2.2.2.2.2.2.1 + 1)),()) S) (J8 ((),x.2.1,x.2.2.1,x.2.2.2.1,x.2.2.2.2.1,x.2.2.2.2.2.1,()) S)
def L4 (k : Nat) : Pc PG R (.loop (su Tryz.f36 1307775)) := mkLoop T_ok (C k) _ m4 k (.seq .auto (.seq (.cond .auto (.mask e8 .auto)) (.seq (.block (.seq .auto (.own [(3,1),(6,1)]))) .auto))) ⟨tr,⟨tr,tr⟩,⟨tr,tr⟩,tr⟩ (fun K => b4 k (kX K 8 e8))
def q0 (k : Nat) (Jnrm : Kt R T3)  (x : T0) (S : LL) : Option R :=
 rounds (b1 k (fun o29 S => Jnrm (o29.1,(),o29.2.2) S)) k (x.1,(),x.2.2) S
def Q0 (k : Nat) : Pc PG R (su Tryz.f36 504623) := mkEnd T_ok (C k) _ c0 z0 (.block (.piece (L1 k).h)) (L1 k).ok (fun x S K => q0 k (kN K z0) x S)
def q3 (k : Nat) (Jnrm : Kt R T3)  (x : T1) (S : LL) : Option R :=
 q0 k (fun o30 S => Jnrm (o30.1,(),o30.2.2) S) (x.1,(),x.2.2.1,x.2.2.2.1,x.2.2.2.2.1,x.2.2.2.2.2.1,x.2.2.2.2.2.2.2.1,x.2.2.2.2.2.2.2.2.1,x.2.2.2.2.2.2.2.2.2.1,x.2.2.2.2.2.2.1,(x.2.2.2.2.2.2.1.length : Int),0,()) S
def Q3 (k : Nat) : Pc PG R (su Tryz.f36 242479) := mkEnd T_ok (C k) _ c2 z0 (.seq .auto (.piece (Q0 k).h)) ⟨tr,(Q0 k).ok⟩ (fun x S K => q3 k (kN K z0) x S)
def q7 (k : Nat) (Jnrm : Kt R T4)  (x : T4) (S : LL) : Option R :=
 Jnrm ((),x.2.1,x.2.2.1,x.2.2.2.1,x.2.2.2.2.1,x.2.2.2.2.2.1,(IntKind.wrap .i64 (x.2.2.2.2.2.2.1 + 1)),()) S
def Q7 (k : Nat) : Pc PG R (su Tryz.f36 201855) := mkEnd T_ok (C k) _ c7 c7 (.block .auto) tr (fun x S K => q7 k (kN K c7) x S)
def q2 (k : Nat) (Jnrm : Kt R T3)  (x : T1) (S : LL) : Option R :=
 idxN x.2.2.1.2.2 x.2.2.2.2.2.1 fun v13 => objAt S x.2.2.1.1 fun ty c14 => stO c14 (x.2.2.1.2.1 + v13 * 1) [(.int .i64 (x.2.2.2.2.2.2.1.length : Int))] fun c15 => setS (S.set x.2.2.1.1 (ty c15)) fun S => q3 k (fun o31 S => Jnrm (o31.1,(),o31.2.2) S) (x.1,(),x.2.2) S
def Q2 (k : Nat) : Pc PG R (su Tryz.f36 111407) := mkEnd T_ok (C k) _ c2 z0 (.seq (.own [(5,1)]) (.piece (Q3 k).h)) ⟨tr,(Q3 k).ok⟩ (fun x S K => q2 k (kN K z0) x S)
def b3 (k : Nat) (J6 : Kt R T4) (rec : Kt R T4) (x : T4) (S : LL) : Option R :=
 ifB (decide (x.2.2.2.2.2.2.1 < (x.2.1.2.2 : Int))) (idxN x.2.2.2.2.1.2.2 x.2.2.2.2.2.2.1 fun v42 => objAt S x.2.2.2.2.1.1 fun ty c43 => ldBool c43 (x.2.2.2.2.1.2.1 + v42 * 1) fun b44 => ifB b44 (q7 k (fun o45 S => rec ((),o45.2) S) ((),x.2) S) (idxN x.2.1.2.2 x.2.2.2.2.2.2.1 fun v46 => objAt S x.2.1.1 fun ty c47 => ldInt .i64 c47 (x.2.1.2.1 + v46 * 1) fun n48 => ifB (decide (n48 > 0)) (q7 k (fun o49 S => rec ((),o49.2) S) ((),x.2) S) (ifB (!(true == true)) (idxL [] x.2.2.2.2.2.2.1 fun v50 => asBool (leaf v50 0) fun b51 => ifB (!b51) (q7 k (fun o52 S => rec ((),o52.2) S) ((),x.2) S) (J6 ((),x.2) S)) (J6 ((),x.2) S)))) (J6 ((),x.2) S)
def L3 (k : Nat) : Pc PG R (.loop (su Tryz.f36 70783)) := mkLoop T_ok (C k) _ c7 k (.seq (.seq (.own [(8,1),(13,1)]) (.cond .auto (.mask c7 .auto))) (.piece (Q7 k).h)) ⟨⟨tr,tr,tr⟩,(Q7 k).ok⟩ (fun K => b3 k (kX K 6 c7))
def q1 (k : Nat) (Jnrm : Kt R T3)  (x : (N2 × U1 × N3 × N3 × Int × Int × LL × LL × Int × Int × Bool × U1)) (S : LL) : Option R :=
 ifB x.2.2.2.2.2.2.2.2.2.2.1 (q2 k (fun o32 S => Jnrm (o32.1,(),o32.2.2) S) (x.1,(),x.2.2.1,x.2.2.2.1,(IntKind.wrap .i64 (x.2.2.2.2.1 + 1)),x.2.2.2.2.2.1,x.2.2.2.2.2.2.1,x.2.2.2.2.2.2.2.1,x.2.2.2.2.2.2.2.2.1,x.2.2.2.2.2.2.2.2.2.1,()) S) (Jnrm (x.1,(),x.2.2.1,x.2.2.2.1,x.2.2.2.2.1,x.2.2.2.2.2.2.2.1,x.2.2.2.2.2.2.2.2.1,x.2.2.2.2.2.2.2.2.2.1,()) S)
def Q1 (k : Nat) : Pc PG R (su Tryz.f36 29487) := mkEnd T_ok (C k) _ c1 z0 (.cond (.seq .auto (.piece (Q2 k).h)) .auto) ⟨⟨tr,(Q2 k).ok⟩,tr⟩ (fun x S K => q1 k (kN K z0) x S)
def b2 (k : Nat) (J4 : Kt R (LL × U1)) (Jret : Kt R (LL × Bool × U1)) (rec : Kt R T5) (x : T5) (S : LL) : Option R :=
 ifB (decide ((x.2.2.2.2.2.1.length : Int) < x.2.2.2.1)) (rounds (b3 k (fun o53 S => ifB (o53.2.2.2.2.2.2.1 == (o53.2.1.2.2 : Int)) (Jret ([],false,()) S) (idxN o53.2.2.2.2.1.2.2 o53.2.2.2.2.2.2.1 fun v54 => objAt S o53.2.2.2.2.1.1 fun ty c55 => stO c55 (o53.2.2.2.2.1.2.1 + v54 * 1) [(.bool true)] fun c56 => setS (S.set o53.2.2.2.2.1.1 (ty c56)) fun S => app 8 o53.2.2.2.2.2.1 [(.int .i64 o53.2.2.2.2.2.2.1)] fun l57 => idxN o53.2.2.1.2.2 o53.2.2.2.2.2.2.1 fun v58 => objAt S o53.2.2.1.1 fun ty c59 => ldSl 1 c59 (o53.2.2.1.2.1 + v58 * 1) fun l60 => rounds (b4 k (fun o69 S => rec ((),o69.2) S)) k ((),o53.2.1,o53.2.2.1,o53.2.2.2.1,o53.2.2.2.2.1,l57,l60,(l60.length : Int),0,()) S))) k ((),x.2.1,x.2.2.1,x.2.2.2.1,x.2.2.2.2.1,x.2.2.2.2.2.1,0,()) S) (J4 x.2.2.2.2.2 S)
def L2 (k : Nat) : Pc PG R (.loop (su Tryz.f36 1151)) := mkLoop T_ok (C k) _ e8 k (.seq (.seq .auto (.cond .auto (.mask e4 .auto))) (.block (.seq .auto (.seq (.block (.piece (L3 k).h)) (.seq (.seq .auto (.cond (.seq .auto (.mask mr .auto)) .auto)) (.seq (.own [(3,1)]) (.seq (.own [(0,1)]) (.seq (.own [(3,1)]) (.block (.piece (L4 k).h)))))))))) ⟨⟨tr,tr,tr⟩,tr,(L3 k).ok,⟨tr,⟨tr,tr⟩,tr⟩,tr,tr,tr,(L4 k).ok⟩ (fun K => b2 k (kX K 4 e4) (kR K mr))
def b0 (k : Nat) (J0 : Kt R (N2 × U1 × N3 × N3 × Int × U1)) (rec : Kt R T3) (x : T3) (S : LL) : Option R :=
 ifB (decide (x.2.2.2.2.2.2.2.1 < x.2.2.2.2.2.2.1)) (idxL x.2.2.2.2.2.1 x.2.2.2.2.2.2.2.1 fun v11 => asSl 1 (leaf v11 0) fun l12 => ifB (true == true) (q1 k (fun o33 S => rec (o33.1,(),o33.2.2.1,o33.2.2.2.1,o33.2.2.2.2.1,o33.2.2.2.2.2.1,o33.2.2.2.2.2.2.1,(IntKind.wrap .i64 (o33.2.2.2.2.2.2.2.1 + 1)),()) S) (x.1,(),x.2.2.1,x.2.2.2.1,x.2.2.2.2.1,x.2.2.2.2.2.2.2.1,l12,x.2.2.2.2.2.1,x.2.2.2.2.2.2.1,x.2.2.2.2.2.2.2.1,true,()) S) (idxL [] x.2.2.2.2.2.2.2.1 fun v34 => asBool (leaf v34 0) fun b35 => q1 k (fun o36 S => rec (o36.1,(),o36.2.2.1,o36.2.2.2.1,o36.2.2.2.2.1,o36.2.2.2.2.2.1,o36.2.2.2.2.2.2.1,(IntKind.wrap .i64 (o36.2.2.2.2.2.2.2.1 + 1)),()) S) (x.1,(),x.2.2.1,x.2.2.2.1,x.2.2.2.2.1,x.2.2.2.2.2.2.2.1,l12,x.2.2.2.2.2.1,x.2.2.2.2.2.2.1,x.2.2.2.2.2.2.2.1,b35,()) S)) (J0 (x.1,(),x.2.2.1,x.2.2.2.1,x.2.2.2.2.1,()) S)
def L0 (k : Nat) : Pc PG R (.loop (su Tryz.f36 303)) := mkLoop T_ok (C k) _ z0 k (.seq .auto (.seq (.cond .auto (.mask e0 .auto)) (.seq (.block (.seq .auto (.seq .auto (.piece (Q1 k).h)))) .auto))) ⟨tr,⟨tr,tr⟩,⟨tr,tr,(Q1 k).ok⟩,tr⟩ (fun K => b0 k (kX K 0 e0))
def fn (k : Nat) (x : (N2 × U1 × U1)) (S : LL) (K : Kt R (LL × Bool × U1)) : Option R :=
 objAt S x.1.1 fun ty c1 => ldSl 8 c1 (x.1.2 + 0) fun l2 => ifB (decide ((l2.length : Int) = (l2.length : Int))) (mkN (l2.length : Int) 8 fun m3 => newObj S (.obj 3 (zeros m3 [(.int .i64 (0 : Int))])) fun i4 S => objAt S x.1.1 fun ty c5 => ldSl 8 c5 (x.1.2 + 0) fun l6 => ifB (decide ((l6.length : Int) = (l6.length : Int))) (mkN (l6.length : Int) 24 fun m7 => newObj S (.obj 45 (zeros m7 [.nilsl])) fun i8 S => objAt S x.1.1 fun ty c9 => ldSl 1 c9 (x.1.2 + 2) fun l10 => rounds (b0 k (fun o37 S => objAt S o37.1.1 fun ty c38 => ldSl 8 c38 (o37.1.2 + 0) fun l39 => ifB (decide ((l39.length : Int) = (l39.length : Int))) (mkN (l39.length : Int) 1 fun m40 => newObj S (.obj 4 (zeros m40 [(.bool false)])) fun i41 S => rounds (b2 k (fun o70 S => K (o70.1,true,()) S) K) k ((),o37.2.2.1,o37.2.2.2.1,o37.2.2.2.2.1,(i41,0,m40),[],()) S) none)) k (x.1,(),(i4,0,m3),(i8,0,m7),0,l10,(l10.length : Int),0,()) S) none) none
def en (k : Nat) : Ent PG R := mkFn T_ok Tryz.func36 ps rs (C k) (.seq .auto (.seq (.own [(3,1)]) (.seq (.own [(3,1)]) (.seq .auto (.seq (.seq (.own [(3,1)]) (.block (.piece (L0 k).h))) (.seq (.own [(3,1)]) (.seq .auto (.seq (.block (.piece (L2 k).h)) (.seq (.own [(0,1)]) (.mask mr .auto)))))))))) ⟨tr,tr,tr,tr,⟨tr,(L0 k).ok⟩,tr,tr,(L2 k).ok,tr,tr⟩ (fn k)
end G.steps_plan_order_nils
namespace G.steps_open
abbrev ps : Mk := sL 8 []
abbrev rs : Mk := sR (sI [])
abbrev e0 : Mk := sL 8 (nM 142 [])
abbrev e2 : Mk := sL 8 (n6 (sP (nM 135 [])))
abbrev e4 : Mk := sL 8 (n6 (sP (sX [.map,.map,.map,.map] (nM 50 (sL 8 (sI (sI (nM 81 []))))))))
abbrev e6 : Mk := n7 (sP (nM 135 []))
abbrev e8 : Mk := n7 (sP (n9 (sh (.lf (.map)) (nM 77 (sL 8 (sI (sI (nM 45 []))))))))
abbrev m0 : Mk := sL 8 (nM 26 (sL 8 (sI (sI (nM 113 [])))))
abbrev m2 : Mk := sL 8 (n6 (sP (sX [.map,.map,.map,.map] (sI (nM 49 (sL 8 (sI (sI (n6 (sL 1 (sI (sI (nM 72 [])))))))))))))
abbrev m3 : Mk := n7 (sP (nM 87 (sL 8 (sI (sI (nM 45 []))))))
abbrev m4 : Mk := n7 (sP (n9 (sh (.lf (.map)) (nM 77 (sL 8 (sI (sI (n5 (sL 1 (sI (sI (nM 37 []))))))))))))
abbrev mr : Mk := n2 (sR (sI (nM 139 [])))
abbrev T5 := LV × Int × U1
abbrev T4 := N2 × LL × Int × Int × U1
abbrev T3 := LL × LL × Int × Int × U1
abbrev T2 := N2 × Nat × LL × Int × Int × LL × Int × Int × U1
abbrev T1 := LL × N2 × (Nat × Nat × Nat × Nat × U1) × LL × Int × Int × U1
abbrev T0 := LL × N2 × (Nat × Nat × Nat × Nat × U1) × Int × LL × Int × Int × LL × Int × Int × U1
def C (k : Nat) : List (Ent PG R) := [steps_plan_order_nils.en k,steps_checkRule.en k,steps_tangleOf.en k,steps_tangle_clashes.en k,⟨51,H.SortedI.h k,H.SortedI.ok k⟩,maps_Keys_map_int_bool_int_bool.en k]
def b4 (k : Nat) (J8 : Kt R (N2 × Nat × LL × Int × Int × U1)) (rec : Kt R T2) (x : T2) (S : LL) : Option R :=
 ifB (decide (x.2.2.2.2.2.2.2.1 < x.2.2.2.2.2.2.1)) (idxL x.2.2.2.2.2.1 x.2.2.2.2.2.2.2.1 fun v54 => asStr (leaf v54 0) fun s55 => objAt S x.1.1 fun ty c56 => ldRaw c56 (x.1.2 + 1) fun v57 => asMap v57 fun i58 => mpAt S i58 .str fun m59 => asInt .i64 ((mapGet m59 (.str s55)).getD (.int .i64 (0 : Int))) fun n60 => ifB (mapGet m59 (.str s55)).isSome (mpAt S x.2.1 (.int .i64) fun m61 => setS (S.set x.2.1 (.mp (.int .i64) (mapPut m61 (.int .i64 n60) (.bool true)))) fun S => rec (x.1,x.2.1,x.2.2.1,x.2.2.2.1,x.2.2.2.2.1,x.2.2.2.2.2.1,x.2.2.2.2.2.2.1,(IntKind.wrap .i64 (x.2.2.2.2.2.2.2.1 + 1)),()) S) (rec (x.1,x.2.1,x.2.2.1,x.2.2.2.1,x.2.2.2.2.1,x.2.2.2.2.2.1,x.2.2.2.2.2.2.1,(IntKind.wrap .i64 (x.2.2.2.2.2.2.2.1 + 1)),()) S)) (J8 (x.1,x.2.1,x.2.2.1,x.2.2.2.1,x.2.2.2.2.1,()) S)
def L4 (k : Nat) : Pc PG R (.loop (su Tryz.f24 1232063)) := mkLoop T_ok (C k) _ m4 k (.seq .auto (.seq (.cond .auto (.mask e8 .auto)) (.seq (.block (.seq .auto (.seq (.own [(3,3),(6,1)]) (.seq .auto (.cond .auto .auto))))) .auto))) ⟨tr,⟨tr,tr⟩,⟨tr,tr,tr,tr,tr⟩,tr⟩ (fun K => b4 k (kX K 8 e8))
def b2 (k : Nat) (J4 : Kt R T1) (Jret : Kt R T5) (rec : Kt R T0) (x : T0) (S : LL) : Option R :=
 ifB (decide (x.2.2.2.2.2.2.2.2.2.1 < x.2.2.2.2.2.2.2.2.1)) (idxL x.2.2.2.2.2.2.2.1 x.2.2.2.2.2.2.2.2.2.1 fun v28 => asStr (leaf v28 0) fun s29 => objAt S x.2.1.1 fun ty c30 => ldRaw c30 (x.2.1.2 + 1) fun v31 => asMap v31 fun i32 => mpAt S i32 .str fun m33 => asInt .i64 ((mapGet m33 (.str s29)).getD (.int .i64 (0 : Int))) fun n34 => ifB (mapGet m33 (.str s29)).isSome (Jret (.nilp,7,()) S) (objAt S x.2.1.1 fun ty c35 => ldRaw c35 (x.2.1.2 + 1) fun v36 => asMap v36 fun i37 => mpAt S i37 .str fun m38 => setS (S.set i37 (.mp .str (mapPut m38 (.str s29) (.int .i64 x.2.2.2.1)))) fun S => steps_tangle_clashes.fn k (x.2.2.1,s29,()) S fun r39 S => ifB r39.1 (Jret (.nilp,12,()) S) (rec (x.1,x.2.1,x.2.2.1,x.2.2.2.1,x.2.2.2.2.1,x.2.2.2.2.2.1,x.2.2.2.2.2.2.1,x.2.2.2.2.2.2.2.1,x.2.2.2.2.2.2.2.2.1,(IntKind.wrap .i64 (x.2.2.2.2.2.2.2.2.2.1 + 1)),()) S))) (J4 (x.1,x.2.1,x.2.2.1,x.2.2.2.2.1,x.2.2.2.2.2.1,x.2.2.2.2.2.2.1,()) S)
def L2 (k : Nat) : Pc PG R (.loop (su Tryz.f24 157279)) := mkLoop T_ok (C k) _ m2 k (.seq .auto (.seq (.cond .auto (.mask e4 .auto)) (.seq (.block (.seq .auto (.seq (.seq (.own [(3,3),(6,1)]) (.seq .auto (.cond (.seq .auto (.mask mr .auto)) .auto))) (.seq (.own [(3,3)]) (.seq .auto (.cond (.seq .auto (.mask mr .auto)) .auto)))))) .auto))) ⟨tr,⟨tr,tr⟩,⟨tr,⟨tr,tr,⟨tr,tr⟩,tr⟩,tr,tr,⟨tr,tr⟩,tr⟩,tr⟩ (fun K => b2 k (kX K 4 e4) (kR K mr))
def b3 (k : Nat) (J6 : Kt R (N2 × U1)) (rec : Kt R T4) (x : T4) (S : LL) : Option R :=
 ifB (decide (x.2.2.2.1 < x.2.2.1)) (idxL x.2.1 x.2.2.2.1 fun v43 => mat 8 v43 fun c44 => asStr (c44.getD 0 .any) fun s45 => asStr (c44.getD 1 .any) fun s46 => asSl 1 (c44.getD 2 .any) fun l47 => asSl 2 (c44.getD 3 .any) fun l48 => asSl 1 (c44.getD 4 .any) fun l49 => asSl 2 (c44.getD 5 .any) fun l50 => asInt .i64 (c44.getD 6 .any) fun n51 => asSl 1 (c44.getD 7 .any) fun l52 => newObj S (.mp (.int .i64) []) fun i53 S => rounds (b4 k (fun o62 S => ifB (Nat.beq o62.1.1 o62.1.1) (objAt S o62.1.1 fun ty c63 => asOwn 45 1 (c63.getD (o62.1.2 + 2) .any) fun l64 => setS (S.set o62.1.1 (ty (c63.set (o62.1.2 + 2) (.sl 1 l64)))) fun S => maps_Keys_map_int_bool_int_bool.fn k (o62.2.1,()) (S.set o62.1.1 .any) fun r65 S' => hidR o62.1.1 (S.getD o62.1.1 .any) S' fun S => H.SortedI.fn k r65 (S.set o62.1.1 .any) fun r66 S' => hidR o62.1.1 (S.getD o62.1.1 .any) S' fun S => app 24 l64 [(.sl 1 r66.1)] fun l67 => objAt S o62.1.1 fun ty c68 => stO c68 (o62.1.2 + 2) [(.own 45 1 l67)] fun c69 => setS (S.set o62.1.1 (ty c69)) fun S => rec (o62.1,o62.2.2.1,o62.2.2.2.1,(IntKind.wrap .i64 (o62.2.2.2.2.1 + 1)),()) S) none)) k (x.1,i53,x.2.1,x.2.2.1,x.2.2.2.1,l52,(l52.length : Int),0,()) S) (J6 (x.1,()) S)
def L3 (k : Nat) : Pc PG R (.loop (su Tryz.f24 1215)) := mkLoop T_ok (C k) _ m3 k (.seq .auto (.seq (.cond .auto (.mask e6 .auto)) (.seq (.block (.seq .auto (.seq .auto (.seq (.seq .auto (.block (.piece (L4 k).h))) (.hide 7 [(4,2),(12,2)] [0,1,2,3,5,4,6,7,8,9,10,11,12]))))) .auto))) ⟨tr,⟨tr,tr⟩,⟨tr,tr,⟨tr,(L4 k).ok⟩,(hide_an (by kernel_rfl))⟩,tr⟩ (fun K => b3 k (kX K 6 e6))
def b1 (k : Nat) (J2 : Kt R (LL × N2 × U1)) (Jret : Kt R T5) (rec : Kt R T1) (x : T1) (S : LL) : Option R :=
 ifB (decide (x.2.2.2.2.2.1 < x.2.2.2.2.1)) (idxL x.2.2.2.1 x.2.2.2.2.2.1 fun v18 => mat 8 v18 fun c19 => asStr (c19.getD 0 .any) fun s20 => asStr (c19.getD 1 .any) fun s21 => asSl 1 (c19.getD 2 .any) fun l22 => asSl 2 (c19.getD 3 .any) fun l23 => asSl 1 (c19.getD 4 .any) fun l24 => asSl 2 (c19.getD 5 .any) fun l25 => asInt .i64 (c19.getD 6 .any) fun n26 => asSl 1 (c19.getD 7 .any) fun l27 => rounds (b2 k (fun o40 S => rec (o40.1,o40.2.1,o40.2.2.1,o40.2.2.2.1,o40.2.2.2.2.1,(IntKind.wrap .i64 (o40.2.2.2.2.2.1 + 1)),()) S) Jret) k (x.1,x.2.1,x.2.2.1,x.2.2.2.2.2.1,x.2.2.2.1,x.2.2.2.2.1,x.2.2.2.2.2.1,l24,(l24.length : Int),0,()) S) (J2 (x.1,x.2.1,()) S)
def L1 (k : Nat) : Pc PG R (.loop (su Tryz.f24 607)) := mkLoop T_ok (C k) _ e4 k (.seq .auto (.seq (.cond .auto (.mask e2 .auto)) (.seq (.block (.seq .auto (.seq .auto (.block (.piece (L2 k).h))))) .auto))) ⟨tr,⟨tr,tr⟩,⟨tr,tr,(L2 k).ok⟩,tr⟩ (fun K => b1 k (kX K 2 e2) (kR K mr))
def b0 (k : Nat) (J0 : Kt R (LL × U1)) (Jret : Kt R T5) (rec : Kt R T3) (x : T3) (S : LL) : Option R :=
 ifB (decide (x.2.2.2.1 < x.2.2.1)) (idxL x.2.1 x.2.2.2.1 fun v1 => mat 8 v1 fun c2 => asStr (c2.getD 0 .any) fun s3 => asStr (c2.getD 1 .any) fun s4 => asSl 1 (c2.getD 2 .any) fun l5 => asSl 2 (c2.getD 3 .any) fun l6 => asSl 1 (c2.getD 4 .any) fun l7 => asSl 2 (c2.getD 5 .any) fun l8 => asInt .i64 (c2.getD 6 .any) fun n9 => asSl 1 (c2.getD 7 .any) fun l10 => steps_checkRule.fn k ((s3,s4,l5,l6,l7,l8,n9,l10,()),()) S fun r11 S => ifB (r11.1 != 0) (Jret (.nilp,r11) S) (ifB (decide (x.2.2.2.1 > 0)) (idxL x.1 (IntKind.wrap .i64 (x.2.2.2.1 - 1)) fun v12 => asStr (leaf v12 0) fun s13 => ifB (strLt s3 s13 || strEq s3 s13) (Jret (.nilp,8,()) S) (rec (x.1,x.2.1,x.2.2.1,(IntKind.wrap .i64 (x.2.2.2.1 + 1)),()) S)) (rec (x.1,x.2.1,x.2.2.1,(IntKind.wrap .i64 (x.2.2.2.1 + 1)),()) S))) (J0 (x.1,()) S)
def L0 (k : Nat) : Pc PG R (.loop (su Tryz.f24 75)) := mkLoop T_ok (C k) _ m0 k (.seq .auto (.seq (.cond .auto (.mask e0 .auto)) (.seq (.block (.seq .auto (.seq (.seq .auto (.seq .auto (.cond (.seq .auto (.mask mr .auto)) .auto))) (.seq (.drawn [] [0,1,2,3,4,5,6,7,8,9,10,11,12]) (.cond (.seq .auto (.mask mr .auto)) .auto))))) .auto))) ⟨tr,⟨tr,tr⟩,⟨tr,⟨tr,tr,⟨tr,tr⟩,tr⟩,(drawn_an (by kernel_rfl)),⟨tr,tr⟩,tr⟩,tr⟩ (fun K => b0 k (kX K 0 e0) (kR K mr))
def fn (k : Nat) (x : (LL × U1)) (S : LL) (K : Kt R T5) : Option R :=
 ifB (decide ((x.1.length : Int) > 500)) (K (.nilp,2,()) S) (rounds (b0 k (fun o14 S => newObj S (.mp .str []) fun i15 S => newObj S (.obj 66 [(.sl 8 o14.1),(.map i15),.nilsl]) fun i16 S => steps_tangleOf.fn k o14 S fun r17 S => rounds (b1 k (fun o42 S => rounds (b3 k (fun o70 S => steps_plan_order_nils.fn k (o70.1,(),()) S fun r71 S => ifB (!r71.2.1) (K (.nilp,17,()) S) (K ((.ptr o70.1.1 o70.1.2),0,()) S))) k (o42.2.1,o42.1,(o42.1.length : Int),0,()) S) K) k (o14.1,(i16,0),r17.1,o14.1,(o14.1.length : Int),0,()) S) K) k (x.1,x.1,(x.1.length : Int),0,()) S)
def en (k : Nat) : Ent PG R := mkFn T_ok Tryz.func24 ps rs (C k) (.seq .auto (.seq (.seq .auto (.cond (.seq .auto (.mask mr .auto)) .auto)) (.seq (.seq .auto (.block (.piece (L0 k).h))) (.seq (.own [(3,1)]) (.seq .auto (.seq (.seq .auto (.block (.piece (L1 k).h))) (.seq (.seq .auto (.block (.piece (L3 k).h))) (.seq (.seq (.own [(2,1)]) (.seq .auto (.cond (.seq .auto (.mask mr .auto)) .auto))) (.seq .auto (.mask mr .auto)))))))))) ⟨tr,⟨tr,⟨tr,tr⟩,tr⟩,⟨tr,(L0 k).ok⟩,tr,tr,⟨tr,(L1 k).ok⟩,⟨tr,(L3 k).ok⟩,⟨tr,tr,⟨tr,tr⟩,tr⟩,tr,tr⟩ (fn k)
end G.steps_open
namespace G.strings_Compare
abbrev ps : Mk := sS (sS [])
abbrev rs : Mk := sI []
abbrev mr : Mk := n4 (sI (n3 []))
def C (k : Nat) : List (Ent PG R) := [⟨92,H.CompareString.h k,H.CompareString.ok k⟩]
def fn (k : Nat) (x : (BA × BA × U1)) (S : LL) (K : Kt R (Int × U1)) : Option R :=
 H.CompareString.fn k x S K
def en (k : Nat) : Ent PG R := mkFn T_ok Tryz.func58 ps rs (C k) (.seq .auto (.seq .auto (.mask mr .auto))) ⟨tr,tr,tr⟩ (fn k)
end G.strings_Compare
namespace G.steps_plan_find_1
abbrev ps : Mk := sA [.str,.str,.sl 1,.sl 2,.sl 1,.sl 2,jI,.sl 1] (sS [])
abbrev rs : Mk := sI []
abbrev mr : Mk := n4 (sI (n4 []))
def C (k : Nat) : List (Ent PG R) := [strings_Compare.en k]
def fn (k : Nat) (x : ((BA × BA × LL × LL × LL × LL × Int × LL × U1) × BA × U1)) (S : LL) (K : Kt R (Int × U1)) : Option R :=
 strings_Compare.fn k (x.1.1,x.2) S K
def en (k : Nat) : Ent PG R := mkFn T_ok Tryz.func82 ps rs (C k) (.seq .auto (.seq .auto (.mask mr .auto))) ⟨tr,tr,tr⟩ (fn k)
end G.steps_plan_find_1
namespace G.slices_BinarySearchFunc_s_api_Rule_api_Rule_string_at_steps_plan_find_1
abbrev ps : Mk := sL 8 (sS (sh (.fn 82 []) []))
abbrev rs : Mk := sI (sB [])
abbrev e0 : Mk := sL 8 (sS (sh (.fn 82 []) (n5 (sI (sI (nM 39 []))))))
abbrev m0 : Mk := sL 8 (sS (sh (.fn 82 []) (n5 (sI (sI (sI (nM 38 [])))))))
abbrev mr : Mk := n6 (sI (sB (nM 41 [])))
abbrev T0 := LL × BA × (U1) × Int × Int × Int × U1
def C (k : Nat) : List (Ent PG R) := [steps_plan_find_1.en k]
def b0 (k : Nat) (J0 : Kt R (LL × BA × (U1) × Int × Int × U1)) (rec : Kt R T0) (x : T0) (S : LL) : Option R :=
 ifB (decide (x.2.2.2.2.1 < x.2.2.2.2.2.1)) (ifB (decide ((1 : Int) < 0)) (none) (idxL x.1 (IntKind.wrap .i64 (shI .shr .u64 (IntKind.wrap .u64 (IntKind.wrap .i64 (x.2.2.2.2.1 + x.2.2.2.2.2.1))) (1 : Int))) fun v1 => mat 8 v1 fun c2 => asStr (c2.getD 0 .any) fun s3 => asStr (c2.getD 1 .any) fun s4 => asSl 1 (c2.getD 2 .any) fun l5 => asSl 2 (c2.getD 3 .any) fun l6 => asSl 1 (c2.getD 4 .any) fun l7 => asSl 2 (c2.getD 5 .any) fun l8 => asInt .i64 (c2.getD 6 .any) fun n9 => asSl 1 (c2.getD 7 .any) fun l10 => steps_plan_find_1.fn k ((s3,s4,l5,l6,l7,l8,n9,l10,()),x.2.1,()) S fun r11 S => ifB (decide (r11.1 < 0)) (rec (x.1,x.2.1,(()),x.2.2.2.1,(IntKind.wrap .i64 ((IntKind.wrap .i64 (shI .shr .u64 (IntKind.wrap .u64 (IntKind.wrap .i64 (x.2.2.2.2.1 + x.2.2.2.2.2.1))) (1 : Int))) + 1)),x.2.2.2.2.2) S) (rec (x.1,x.2.1,(()),x.2.2.2.1,x.2.2.2.2.1,(IntKind.wrap .i64 (shI .shr .u64 (IntKind.wrap .u64 (IntKind.wrap .i64 (x.2.2.2.2.1 + x.2.2.2.2.2.1))) (1 : Int))),()) S))) (J0 (x.1,x.2.1,(()),x.2.2.2.1,x.2.2.2.2.1,()) S)
def L0 (k : Nat) : Pc PG R (.loop (su Tryz.f81 71)) := mkLoop T_ok (C k) _ m0 k (.seq (.seq .auto (.cond .auto (.mask e0 .auto))) (.block (.seq .auto (.seq .auto (.cond .auto .auto))))) ⟨⟨tr,tr,tr⟩,tr,tr,tr,tr⟩ (fun K => b0 k (kX K 0 e0))
def fn (k : Nat) (x : (LL × BA × (U1) × U1)) (S : LL) (K : Kt R (Int × Bool × U1)) : Option R :=
 rounds (b0 k (fun o12 S => ifB (decide (o12.2.2.2.2.1 < o12.2.2.2.1)) (idxL o12.1 o12.2.2.2.2.1 fun v13 => mat 8 v13 fun c14 => asStr (c14.getD 0 .any) fun s15 => asStr (c14.getD 1 .any) fun s16 => asSl 1 (c14.getD 2 .any) fun l17 => asSl 2 (c14.getD 3 .any) fun l18 => asSl 1 (c14.getD 4 .any) fun l19 => asSl 2 (c14.getD 5 .any) fun l20 => asInt .i64 (c14.getD 6 .any) fun n21 => asSl 1 (c14.getD 7 .any) fun l22 => steps_plan_find_1.fn k ((s15,s16,l17,l18,l19,l20,n21,l22,()),o12.2.1,()) S fun r23 S => K (o12.2.2.2.2.1,(r23.1 == 0),()) S) (K (o12.2.2.2.2.1,false,()) S))) k (x.1,x.2.1,(()),(x.1.length : Int),0,(x.1.length : Int),()) S
def en (k : Nat) : Ent PG R := mkFn T_ok Tryz.func81 ps rs (C k) (.seq .auto (.seq .auto (.seq .auto (.seq (.block (.piece (L0 k).h)) (.seq .auto (.mask mr .auto)))))) ⟨tr,tr,tr,(L0 k).ok,tr,tr⟩ (fn k)
end G.slices_BinarySearchFunc_s_api_Rule_api_Rule_string_at_steps_plan_find_1
namespace G.steps_plan_find
abbrev ps : Mk := sP (sS [])
abbrev rs : Mk := sI []
abbrev mr : Mk := n4 (sI (nM 14 []))
def C (k : Nat) : List (Ent PG R) := [slices_BinarySearchFunc_s_api_Rule_api_Rule_string_at_steps_plan_find_1.en k]
def fn (k : Nat) (x : (N2 × BA × U1)) (S : LL) (K : Kt R (Int × U1)) : Option R :=
 objAt S x.1.1 fun ty c1 => ldSl 8 c1 (x.1.2 + 0) fun l2 => slices_BinarySearchFunc_s_api_Rule_api_Rule_string_at_steps_plan_find_1.fn k (l2,x.2.1,(()),()) S fun r3 S => ifB (!r3.2.1) (K (-1,()) S) (K (r3.1,()) S)
def en (k : Nat) : Ent PG R := mkFn T_ok Tryz.func53 ps rs (C k) (.seq .auto (.seq (.own [(3,1),(6,1)]) (.seq (.seq .auto (.cond (.seq .auto (.mask mr .auto)) .auto)) (.seq .auto (.mask mr .auto))))) ⟨tr,tr,⟨tr,⟨tr,tr⟩,tr⟩,tr,tr⟩ (fn k)
end G.steps_plan_find
namespace G.steps_plan_order_osl
abbrev ps : Mk := sP (sQ 1 [])
abbrev rs : Mk := sO 3 1 (sB [])
abbrev c0 : Mk := sP (sQ 1 (n4 (sQ 1 (sQ 1 (sI (sI (nM 23 (sL 1 (sI (sI (nM 19 (sL 1 (sI (sI (nM 83 [])))))))))))))))
abbrev c1 : Mk := sP (sQ 1 (n4 (sQ 1 (sQ 1 (sI (sI (sL 1 (nM 22 (sL 1 (sI (sI (nM 11 (sB (nM 93 []))))))))))))))
abbrev c2 : Mk := sP (sQ 1 (n4 (sQ 1 (sQ 1 (sI (sI (sL 1 (nM 22 (sL 1 (sI (sI (nM 105 []))))))))))))
abbrev c4 : Mk := sP (sQ 1 (n4 (sQ 1 (sQ 1 (sI (sI (nM 23 (sL 1 (sI (sI (nM 19 (sL 1 (sI (sI (sB (nM 82 []))))))))))))))))
abbrev c6 : Mk := sP (sQ 1 (n4 (sQ 1 (sQ 1 (sI (sI (n2 (sI (nM 20 (sL 1 (sI (sI (nM 19 (sL 1 (sI (sI (nM 83 [])))))))))))))))))
abbrev c7 : Mk := n1 (sQ 1 (n4 (sQ 1 (sQ 1 (sI (n4 (sQ 1 (sO 3 1 (sI (nM 125 []))))))))))
abbrev z0 : Mk := sP (sQ 1 (n4 (sQ 1 (sQ 1 (sI (nM 24 (sL 1 (sI (sI (nM 105 []))))))))))
abbrev e0 : Mk := sP (sQ 1 (n4 (sQ 1 (sQ 1 (sI (nM 132 []))))))
abbrev e4 : Mk := nM 14 (sO 3 1 (nM 126 []))
abbrev e8 : Mk := n1 (sQ 1 (n4 (sQ 1 (sQ 1 (sI (n4 (sQ 1 (sO 3 1 (nM 126 [])))))))))
abbrev m4 : Mk := n1 (sQ 1 (n4 (sQ 1 (sQ 1 (sI (n4 (sQ 1 (sO 3 1 (nM 112 (sL 1 (sI (sI (nM 11 [])))))))))))))
abbrev mr : Mk := n4 (sO 3 1 (sB (nM 135 [])))
abbrev T5 := N3 × N3 × N3 × Int × N3 × LL × U1
abbrev T4 := N3 × N3 × N3 × Int × N3 × LL × Int × U1
abbrev T3 := N2 × N3 × N3 × N3 × Int × LL × Int × Int × U1
abbrev T2 := N3 × N3 × N3 × Int × N3 × LL × LL × Int × Int × U1
abbrev T1 := N2 × N3 × N3 × N3 × Int × Int × LL × LL × Int × Int × U1
abbrev T0 := N2 × N3 × N3 × N3 × Int × Int × LL × Int × Int × LL × Int × Int × U1
def C (k : Nat) : List (Ent PG R) := []
def q6 (k : Nat) (Jnrm : Kt R T0)  (x : (N2 × N3 × N3 × N3 × Int × Int × Int × LL × Int × Int × LL × Int × Int × U1)) (S : LL) : Option R :=
 idxN x.2.2.2.1.2.2 x.2.2.2.2.2.2.1 fun v18 => objAt S x.2.2.2.1.1 fun ty c19 => asOwn 3 1 (c19.getD (x.2.2.2.1.2.1 + v18 * 1) .any) fun l20 => setS (S.set x.2.2.2.1.1 (ty (c19.set (x.2.2.2.1.2.1 + v18 * 1) (.sl 1 l20)))) fun S => app 8 l20 [(.int .i64 x.2.2.2.2.2.1)] fun l21 => idxN x.2.2.2.1.2.2 x.2.2.2.2.2.2.1 fun v22 => objAt S x.2.2.2.1.1 fun ty c23 => stO c23 (x.2.2.2.1.2.1 + v22 * 1) [(.own 3 1 l21)] fun c24 => setS (S.set x.2.2.2.1.1 (ty c24)) fun S => Jnrm (x.1,x.2.1,x.2.2.1,x.2.2.2.1,x.2.2.2.2.1,x.2.2.2.2.2.1,x.2.2.2.2.2.2.2) S
def Q6 (k : Nat) : Pc PG R (su Tryz.f36 53719855) := mkEnd T_ok (C k) _ c6 c0 (.own [(5,2),(10,2)]) tr (fun x S K => q6 k (kN K c0) x S)
def q5 (k : Nat) (Jnrm : Kt R T0)  (x : T0) (S : LL) : Option R :=
 idxL x.2.2.2.2.2.2.2.2.2.1 x.2.2.2.2.2.2.2.2.2.2.2.1 fun v16 => asInt .i64 (leaf v16 0) fun n17 => q6 k (fun o25 S => Jnrm (o25.1,o25.2.1,o25.2.2.1,o25.2.2.2.1,o25.2.2.2.2.1,o25.2.2.2.2.2.1,o25.2.2.2.2.2.2.1,o25.2.2.2.2.2.2.2.1,o25.2.2.2.2.2.2.2.2.1,o25.2.2.2.2.2.2.2.2.2.1,o25.2.2.2.2.2.2.2.2.2.2.1,(IntKind.wrap .i64 (o25.2.2.2.2.2.2.2.2.2.2.2.1 + 1)),()) S) (x.1,x.2.1,x.2.2.1,x.2.2.2.1,x.2.2.2.2.1,x.2.2.2.2.2.1,n17,x.2.2.2.2.2.2) S
def Q5 (k : Nat) : Pc PG R (su Tryz.f36 7582511) := mkEnd T_ok (C k) _ c0 c0 (.seq (.block (.seq .auto (.piece (Q6 k).h))) .auto) ⟨⟨tr,(Q6 k).ok⟩,tr⟩ (fun x S K => q5 k (kN K c0) x S)
def q4 (k : Nat) (Jnrm : Kt R T0) (J2 : Kt R T3) (x : (N2 × N3 × N3 × N3 × Int × Int × LL × Int × Int × LL × Int × Int × Bool × U1)) (S : LL) : Option R :=
 ifB x.2.2.2.2.2.2.2.2.2.2.2.2.1 (q5 k Jnrm (x.1,x.2.1,x.2.2.1,x.2.2.2.1,x.2.2.2.2.1,x.2.2.2.2.2.1,x.2.2.2.2.2.2.1,x.2.2.2.2.2.2.2.1,x.2.2.2.2.2.2.2.2.1,x.2.2.2.2.2.2.2.2.2.1,x.2.2.2.2.2.2.2.2.2.2.1,x.2.2.2.2.2.2.2.2.2.2.2.1,()) S) (J2 (x.1,x.2.1,x.2.2.1,x.2.2.2.1,x.2.2.2.2.1,x.2.2.2.2.2.2.1,x.2.2.2.2.2.2.2.1,x.2.2.2.2.2.2.2.2.1,()) S)
def Q4 (k : Nat) : Pc PG R (su Tryz.f36 3388207) := mkEnd T_ok (C k) _ c4 c0 (.seq (.cond .auto (.mask z0 .auto)) (.piece (Q5 k).h)) ⟨⟨tr,tr⟩,(Q5 k).ok⟩ (fun x S K => q4 k (kN K c0) (kX K 2 z0) x S)
def b1 (k : Nat) (J2 : Kt R T3) (rec : Kt R T0) (x : T0) (S : LL) : Option R :=
 q4 k rec J2 (x.1,x.2.1,x.2.2.1,x.2.2.2.1,x.2.2.2.2.1,x.2.2.2.2.2.1,x.2.2.2.2.2.2.1,x.2.2.2.2.2.2.2.1,x.2.2.2.2.2.2.2.2.1,x.2.2.2.2.2.2.2.2.2.1,x.2.2.2.2.2.2.2.2.2.2.1,x.2.2.2.2.2.2.2.2.2.2.2.1,(decide (x.2.2.2.2.2.2.2.2.2.2.2.1 < x.2.2.2.2.2.2.2.2.2.2.1)),()) S
def L1 (k : Nat) : Pc PG R (.loop (su Tryz.f36 1291055)) := mkLoop T_ok (C k) _ c0 k (.seq .auto (.piece (Q4 k).h)) ⟨tr,(Q4 k).ok⟩ (fun K => b1 k (kX K 2 z0))
def b4 (k : Nat) (J8 : Kt R T5) (rec : Kt R T2) (x : T2) (S : LL) : Option R :=
 ifB (decide (x.2.2.2.2.2.2.2.2.1 < x.2.2.2.2.2.2.2.1)) (idxL x.2.2.2.2.2.2.1 x.2.2.2.2.2.2.2.2.1 fun v63 => asInt .i64 (leaf v63 0) fun n64 => idxN x.2.1.2.2 n64 fun v65 => objAt S x.2.1.1 fun ty c66 => ldInt .i64 c66 (x.2.1.2.1 + v65 * 1) fun n67 => idxN x.2.1.2.2 n64 fun v68 => objAt S x.2.1.1 fun ty c69 => stO c69 (x.2.1.2.1 + v68 * 1) [(.int .i64 (IntKind.wrap .i64 (n67 - 1)))] fun c70 => setS (S.set x.2.1.1 (ty c70)) fun S => rec (x.1,x.2.1,x.2.2.1,x.2.2.2.1,x.2.2.2.2.1,x.2.2.2.2.2.1,x.2.2.2.2.2.2.1,x.2.2.2.2.2.2.2.1,(IntKind.wrap .i64 (x.2.2.2.2.2.2.2.2.1 + 1)),()) S) (J8 (x.1,x.2.1,x.2.2.1,x.2.2.2.1,x.2.2.2.2.1,x.2.2.2.2.2.1,()) S)
def L4 (k : Nat) : Pc PG R (.loop (su Tryz.f36 1307775)) := mkLoop T_ok (C k) _ m4 k (.seq .auto (.seq (.cond .auto (.mask e8 .auto)) (.seq (.block (.seq .auto (.own [(3,1),(6,1)]))) .auto))) ⟨tr,⟨tr,tr⟩,⟨tr,tr⟩,tr⟩ (fun K => b4 k (kX K 8 e8))
def q0 (k : Nat) (Jnrm : Kt R T3)  (x : T0) (S : LL) : Option R :=
 rounds (b1 k Jnrm) k x S
def Q0 (k : Nat) : Pc PG R (su Tryz.f36 504623) := mkEnd T_ok (C k) _ c0 z0 (.block (.piece (L1 k).h)) (L1 k).ok (fun x S K => q0 k (kN K z0) x S)
def q3 (k : Nat) (Jnrm : Kt R T3)  (x : T1) (S : LL) : Option R :=
 q0 k Jnrm (x.1,x.2.1,x.2.2.1,x.2.2.2.1,x.2.2.2.2.1,x.2.2.2.2.2.1,x.2.2.2.2.2.2.2.1,x.2.2.2.2.2.2.2.2.1,x.2.2.2.2.2.2.2.2.2.1,x.2.2.2.2.2.2.1,(x.2.2.2.2.2.2.1.length : Int),0,()) S
def Q3 (k : Nat) : Pc PG R (su Tryz.f36 242479) := mkEnd T_ok (C k) _ c2 z0 (.seq .auto (.piece (Q0 k).h)) ⟨tr,(Q0 k).ok⟩ (fun x S K => q3 k (kN K z0) x S)
def q7 (k : Nat) (Jnrm : Kt R T4)  (x : T4) (S : LL) : Option R :=
 Jnrm (x.1,x.2.1,x.2.2.1,x.2.2.2.1,x.2.2.2.2.1,x.2.2.2.2.2.1,(IntKind.wrap .i64 (x.2.2.2.2.2.2.1 + 1)),()) S
def Q7 (k : Nat) : Pc PG R (su Tryz.f36 201855) := mkEnd T_ok (C k) _ c7 c7 (.block .auto) tr (fun x S K => q7 k (kN K c7) x S)
def q2 (k : Nat) (Jnrm : Kt R T3)  (x : T1) (S : LL) : Option R :=
 idxN x.2.2.1.2.2 x.2.2.2.2.2.1 fun v13 => objAt S x.2.2.1.1 fun ty c14 => stO c14 (x.2.2.1.2.1 + v13 * 1) [(.int .i64 (x.2.2.2.2.2.2.1.length : Int))] fun c15 => setS (S.set x.2.2.1.1 (ty c15)) fun S => q3 k Jnrm x S
def Q2 (k : Nat) : Pc PG R (su Tryz.f36 111407) := mkEnd T_ok (C k) _ c2 z0 (.seq (.own [(5,1)]) (.piece (Q3 k).h)) ⟨tr,(Q3 k).ok⟩ (fun x S K => q2 k (kN K z0) x S)
def b3 (k : Nat) (J6 : Kt R T4) (rec : Kt R T4) (x : T4) (S : LL) : Option R :=
 ifB (decide (x.2.2.2.2.2.2.1 < (x.2.1.2.2 : Int))) (idxN x.2.2.2.2.1.2.2 x.2.2.2.2.2.2.1 fun v43 => objAt S x.2.2.2.2.1.1 fun ty c44 => ldBool c44 (x.2.2.2.2.1.2.1 + v43 * 1) fun b45 => ifB b45 (q7 k rec x S) (idxN x.2.1.2.2 x.2.2.2.2.2.2.1 fun v47 => objAt S x.2.1.1 fun ty c48 => ldInt .i64 c48 (x.2.1.2.1 + v47 * 1) fun n49 => ifB (decide (n49 > 0)) (q7 k rec x S) (ifB (!(false == true)) (idxN x.1.2.2 x.2.2.2.2.2.2.1 fun v51 => objAt S x.1.1 fun ty c52 => ldBool c52 (x.1.2.1 + v51 * 1) fun b53 => ifB (!b53) (q7 k rec x S) (J6 x S)) (J6 x S)))) (J6 x S)
def L3 (k : Nat) : Pc PG R (.loop (su Tryz.f36 70783)) := mkLoop T_ok (C k) _ c7 k (.seq (.seq (.own [(8,1),(13,1),(23,1)]) (.cond .auto (.mask c7 .auto))) (.piece (Q7 k).h)) ⟨⟨tr,tr,tr⟩,(Q7 k).ok⟩ (fun K => b3 k (kX K 6 c7))
def q1 (k : Nat) (Jnrm : Kt R T3)  (x : (N2 × N3 × N3 × N3 × Int × Int × LL × LL × Int × Int × Bool × U1)) (S : LL) : Option R :=
 ifB x.2.2.2.2.2.2.2.2.2.2.1 (q2 k Jnrm (x.1,x.2.1,x.2.2.1,x.2.2.2.1,(IntKind.wrap .i64 (x.2.2.2.2.1 + 1)),x.2.2.2.2.2.1,x.2.2.2.2.2.2.1,x.2.2.2.2.2.2.2.1,x.2.2.2.2.2.2.2.2.1,x.2.2.2.2.2.2.2.2.2.1,()) S) (Jnrm (x.1,x.2.1,x.2.2.1,x.2.2.2.1,x.2.2.2.2.1,x.2.2.2.2.2.2.2.1,x.2.2.2.2.2.2.2.2.1,x.2.2.2.2.2.2.2.2.2.1,()) S)
def Q1 (k : Nat) : Pc PG R (su Tryz.f36 29487) := mkEnd T_ok (C k) _ c1 z0 (.cond (.seq .auto (.piece (Q2 k).h)) .auto) ⟨⟨tr,(Q2 k).ok⟩,tr⟩ (fun x S K => q1 k (kN K z0) x S)
def b2 (k : Nat) (J4 : Kt R (LL × U1)) (Jret : Kt R (LL × Bool × U1)) (rec : Kt R T5) (x : T5) (S : LL) : Option R :=
 ifB (decide ((x.2.2.2.2.2.1.length : Int) < x.2.2.2.1)) (rounds (b3 k (fun o55 S => ifB (o55.2.2.2.2.2.2.1 == (o55.2.1.2.2 : Int)) (Jret ([],false,()) S) (idxN o55.2.2.2.2.1.2.2 o55.2.2.2.2.2.2.1 fun v56 => objAt S o55.2.2.2.2.1.1 fun ty c57 => stO c57 (o55.2.2.2.2.1.2.1 + v56 * 1) [(.bool true)] fun c58 => setS (S.set o55.2.2.2.2.1.1 (ty c58)) fun S => app 8 o55.2.2.2.2.2.1 [(.int .i64 o55.2.2.2.2.2.2.1)] fun l59 => idxN o55.2.2.1.2.2 o55.2.2.2.2.2.2.1 fun v60 => objAt S o55.2.2.1.1 fun ty c61 => ldSl 1 c61 (o55.2.2.1.2.1 + v60 * 1) fun l62 => rounds (b4 k rec) k (o55.1,o55.2.1,o55.2.2.1,o55.2.2.2.1,o55.2.2.2.2.1,l59,l62,(l62.length : Int),0,()) S))) k (x.1,x.2.1,x.2.2.1,x.2.2.2.1,x.2.2.2.2.1,x.2.2.2.2.2.1,0,()) S) (J4 x.2.2.2.2.2 S)
def L2 (k : Nat) : Pc PG R (.loop (su Tryz.f36 1151)) := mkLoop T_ok (C k) _ e8 k (.seq (.seq .auto (.cond .auto (.mask e4 .auto))) (.block (.seq .auto (.seq (.block (.piece (L3 k).h)) (.seq (.seq .auto (.cond (.seq .auto (.mask mr .auto)) .auto)) (.seq (.own [(3,1)]) (.seq (.own [(0,1)]) (.seq (.own [(3,1)]) (.block (.piece (L4 k).h)))))))))) ⟨⟨tr,tr,tr⟩,tr,(L3 k).ok,⟨tr,⟨tr,tr⟩,tr⟩,tr,tr,tr,(L4 k).ok⟩ (fun K => b2 k (kX K 4 e4) (kR K mr))
def b0 (k : Nat) (J0 : Kt R (N2 × N3 × N3 × N3 × Int × U1)) (rec : Kt R T3) (x : T3) (S : LL) : Option R :=
 ifB (decide (x.2.2.2.2.2.2.2.1 < x.2.2.2.2.2.2.1)) (idxL x.2.2.2.2.2.1 x.2.2.2.2.2.2.2.1 fun v11 => asSl 1 (leaf v11 0) fun l12 => ifB (false == true) (q1 k (fun o33 S => rec (o33.1,o33.2.1,o33.2.2.1,o33.2.2.2.1,o33.2.2.2.2.1,o33.2.2.2.2.2.1,o33.2.2.2.2.2.2.1,(IntKind.wrap .i64 (o33.2.2.2.2.2.2.2.1 + 1)),()) S) (x.1,x.2.1,x.2.2.1,x.2.2.2.1,x.2.2.2.2.1,x.2.2.2.2.2.2.2.1,l12,x.2.2.2.2.2.1,x.2.2.2.2.2.2.1,x.2.2.2.2.2.2.2.1,true,()) S) (idxN x.2.1.2.2 x.2.2.2.2.2.2.2.1 fun v34 => objAt S x.2.1.1 fun ty c35 => ldBool c35 (x.2.1.2.1 + v34 * 1) fun b36 => q1 k (fun o37 S => rec (o37.1,o37.2.1,o37.2.2.1,o37.2.2.2.1,o37.2.2.2.2.1,o37.2.2.2.2.2.1,o37.2.2.2.2.2.2.1,(IntKind.wrap .i64 (o37.2.2.2.2.2.2.2.1 + 1)),()) S) (x.1,x.2.1,x.2.2.1,x.2.2.2.1,x.2.2.2.2.1,x.2.2.2.2.2.2.2.1,l12,x.2.2.2.2.2.1,x.2.2.2.2.2.2.1,x.2.2.2.2.2.2.2.1,b36,()) S)) (J0 (x.1,x.2.1,x.2.2.1,x.2.2.2.1,x.2.2.2.2.1,()) S)
def L0 (k : Nat) : Pc PG R (.loop (su Tryz.f36 303)) := mkLoop T_ok (C k) _ z0 k (.seq .auto (.seq (.cond .auto (.mask e0 .auto)) (.seq (.block (.seq .auto (.seq (.own [(6,1)]) (.piece (Q1 k).h)))) .auto))) ⟨tr,⟨tr,tr⟩,⟨tr,tr,(Q1 k).ok⟩,tr⟩ (fun K => b0 k (kX K 0 e0))
def fn (k : Nat) (x : (N2 × N3 × U1)) (S : LL) (K : Kt R (LL × Bool × U1)) : Option R :=
 objAt S x.1.1 fun ty c1 => ldSl 8 c1 (x.1.2 + 0) fun l2 => ifB (decide ((l2.length : Int) = (l2.length : Int))) (mkN (l2.length : Int) 8 fun m3 => newObj S (.obj 3 (zeros m3 [(.int .i64 (0 : Int))])) fun i4 S => objAt S x.1.1 fun ty c5 => ldSl 8 c5 (x.1.2 + 0) fun l6 => ifB (decide ((l6.length : Int) = (l6.length : Int))) (mkN (l6.length : Int) 24 fun m7 => newObj S (.obj 45 (zeros m7 [.nilsl])) fun i8 S => objAt S x.1.1 fun ty c9 => ldSl 1 c9 (x.1.2 + 2) fun l10 => rounds (b0 k (fun o38 S => objAt S o38.1.1 fun ty c39 => ldSl 8 c39 (o38.1.2 + 0) fun l40 => ifB (decide ((l40.length : Int) = (l40.length : Int))) (mkN (l40.length : Int) 1 fun m41 => newObj S (.obj 4 (zeros m41 [(.bool false)])) fun i42 S => rounds (b2 k (fun o72 S => K (o72.1,true,()) S) K) k (o38.2.1,o38.2.2.1,o38.2.2.2.1,o38.2.2.2.2.1,(i42,0,m41),[],()) S) none)) k (x.1,x.2.1,(i4,0,m3),(i8,0,m7),0,l10,(l10.length : Int),0,()) S) none) none
def en (k : Nat) : Ent PG R := mkFn T_ok Tryz.func36 ps rs (C k) (.seq .auto (.seq (.own [(3,1)]) (.seq (.own [(3,1)]) (.seq .auto (.seq (.seq (.own [(3,1)]) (.block (.piece (L0 k).h))) (.seq (.own [(3,1)]) (.seq .auto (.seq (.block (.piece (L2 k).h)) (.seq (.own [(0,1)]) (.mask mr .auto)))))))))) ⟨tr,tr,tr,tr,⟨tr,(L0 k).ok⟩,tr,tr,(L2 k).ok,tr,tr⟩ (fn k)
end G.steps_plan_order_osl
namespace G.steps_plan_closure
abbrev ps : Mk := sP (sL 1 [])
abbrev rs : Mk := sO 3 1 (sI [])
abbrev c0 : Mk := sP (n5 (sQ 1 (sR (n3 (sI (nM 65 []))))))
abbrev z0 : Mk := sP (n5 (sQ 1 (sR (nM 69 []))))
abbrev e2 : Mk := sP (n5 (sQ 1 (nM 70 [])))
abbrev m0 : Mk := sP (n5 (sQ 1 (sR (nM 15 (sL 1 (sI (sI (nM 51 []))))))))
abbrev mr : Mk := n4 (sO 3 1 (sI (nM 71 [])))
abbrev T1 := N2 × N3 × LV × U1
abbrev T0 := N2 × N3 × LV × LL × Int × Int × U1
def C (k : Nat) : List (Ent PG R) := [steps_plan_order_osl.en k,steps_plan_find.en k]
def q0 (k : Nat) (Jnrm : Kt R T1)  (x : (N2 × N3 × LV × Int × U1)) (S : LL) : Option R :=
 objAt S x.1.1 fun ty c28 => ldSl 1 c28 (x.1.2 + 2) fun l29 => idxL l29 x.2.2.2.1 fun v30 => asSl 1 (leaf v30 0) fun l31 => appO 3 1 8 S x.2.2.1 l31 fun v33 S => Jnrm (x.1,x.2.1,v33,()) S
def Q0 (k : Nat) : Pc PG R (su Tryz.f25 56607) := mkEnd T_ok (C k) _ c0 z0 (.own [(0,1),(4,1),(8,1)]) tr (fun x S K => q0 k (kN K z0) x S)
def b0 (k : Nat) (J0 : Kt R T1) (Jret : Kt R (LL × Int × U1)) (rec : Kt R T0) (x : T0) (S : LL) : Option R :=
 ifB (decide (x.2.2.2.2.2.1 < x.2.2.2.2.1)) (idxL x.2.2.2.1 x.2.2.2.2.2.1 fun v5 => asStr (leaf v5 0) fun s6 => steps_plan_find.fn k (x.1,s6,()) S fun r7 S => ifB (decide (r7.1 < 0)) (Jret ([],9,()) S) (appO 3 1 8 S x.2.2.1 [(.int .i64 r7.1)] fun v9 S => rec (x.1,x.2.1,v9,x.2.2.2.1,x.2.2.2.2.1,(IntKind.wrap .i64 (x.2.2.2.2.2.1 + 1)),()) S)) (J0 (x.1,x.2.1,x.2.2.1,()) S)
def L0 (k : Nat) : Pc PG R (.loop (su Tryz.f25 303)) := mkLoop T_ok (C k) _ m0 k (.seq .auto (.seq (.cond .auto (.mask z0 .auto)) (.seq (.block (.seq .auto (.seq .auto (.seq (.seq .auto (.cond (.seq .auto (.mask mr .auto)) .auto)) (.own [(0,1),(3,1)]))))) .auto))) ⟨tr,⟨tr,tr⟩,⟨tr,tr,⟨tr,⟨tr,tr⟩,tr⟩,tr⟩,tr⟩ (fun K => b0 k (kX K 0 z0) (kR K mr))
def b1 (k : Nat) (J2 : Kt R (N2 × N3 × U1)) (rec : Kt R T1) (x : T1) (S : LL) : Option R :=
 lenO (dup x.2.2.1) fun n11 => ifB (decide ((n11 : Int) > 0)) (lenO (dup x.2.2.1) fun n12 => oslOr (dup x.2.2.1) (fun i14 p15 z17 n16 => ifB (Nat.beq z17 1) (idxN n16 (IntKind.wrap .i64 ((n12 : Int) - 1)) fun v13 => objAt S i14 fun ty c18 => ldInt .i64 c18 (p15 + v13 * z17) fun n19 => lenO (dup x.2.2.1) fun n20 => slO 1 (dup x.2.2.1) (IntKind.wrap .i64 ((n20 : Int) - 1)) fun v21 => idxN x.2.1.2.2 n19 fun v22 => objAt S x.2.1.1 fun ty c23 => ldBool c23 (x.2.1.2.1 + v22 * 1) fun b24 => ifB (!b24) (idxN x.2.1.2.2 n19 fun v25 => objAt S x.2.1.1 fun ty c26 => stO c26 (x.2.1.2.1 + v25 * 1) [(.bool true)] fun c27 => setS (S.set x.2.1.1 (ty c27)) fun S => q0 k rec (x.1,x.2.1,v21,n19,()) S) (rec (x.1,x.2.1,v21,()) S)) none) none) (J2 (x.1,x.2.1,()) S)
def L1 (k : Nat) : Pc PG R (.loop (su Tryz.f25 287)) := mkLoop T_ok (C k) _ z0 k (.seq (.seq (.own [(0,2),(1,1)]) (.cond .auto (.mask e2 .auto))) (.block (.seq (.own [(0,2),(1,2),(2,1),(4,1),(5,1)]) (.seq (.own [(0,2),(1,2),(2,1),(4,1)]) (.seq (.own [(3,1)]) (.cond (.seq (.own [(3,1)]) (.piece (Q0 k).h)) .auto)))))) ⟨⟨tr,tr,tr⟩,tr,tr,tr,⟨tr,(Q0 k).ok⟩,tr⟩ (fun K => b1 k (kX K 2 e2))
def fn (k : Nat) (x : (N2 × LL × U1)) (S : LL) (K : Kt R (LL × Int × U1)) : Option R :=
 ifB (decide ((x.2.1.length : Int) > 500)) (K ([],2,()) S) (objAt S x.1.1 fun ty c1 => ldSl 8 c1 (x.1.2 + 0) fun l2 => ifB (decide ((l2.length : Int) = (l2.length : Int))) (mkN (l2.length : Int) 1 fun m3 => newObj S (.obj 4 (zeros m3 [(.bool false)])) fun i4 S => rounds (b0 k (fun o10 S => rounds (b1 k (fun o35 S => steps_plan_order_osl.fn k o35 S fun r36 S => K (r36.1,0,()) S)) k o10 S) K) k (x.1,(i4,0,m3),.nilsl,x.2.1,(x.2.1.length : Int),0,()) S) none)
def en (k : Nat) : Ent PG R := mkFn T_ok Tryz.func25 ps rs (C k) (.seq .auto (.seq (.seq .auto (.cond (.seq .auto (.mask mr .auto)) .auto)) (.seq (.own [(3,1)]) (.seq .auto (.seq (.seq .auto (.block (.piece (L0 k).h))) (.seq (.block (.piece (L1 k).h)) (.seq (.own [(3,1)]) (.seq (.own [(0,1)]) (.mask mr .auto))))))))) ⟨tr,⟨tr,⟨tr,tr⟩,tr⟩,tr,tr,⟨tr,(L0 k).ok⟩,(L1 k).ok,tr,tr,tr⟩ (fn k)
end G.steps_plan_closure
namespace G.steps_Order
abbrev ps : Mk := sL 8 (sL 1 [])
abbrev rs : Mk := sO 9 1 (sI [])
abbrev e0 : Mk := n7 (sI (n1 (sO 9 1 (nM 33 []))))
abbrev m0 : Mk := sL 8 (n6 (sI (n1 (sO 9 1 (nM 16 (sL 1 (sI (sI (nM 14 [])))))))))
abbrev mr : Mk := n4 (sO 9 1 (sI (nM 37 [])))
abbrev T0 := LL × Int × LL × LL × Int × Int × U1
def C (k : Nat) : List (Ent PG R) := [steps_open.en k,steps_plan_closure.en k]
def b0 (k : Nat) (J0 : Kt R (Int × LL × U1)) (rec : Kt R T0) (x : T0) (S : LL) : Option R :=
 ifB (decide (x.2.2.2.2.2.1 < x.2.2.2.2.1)) (idxL x.2.2.2.1 x.2.2.2.2.2.1 fun v5 => asInt .i64 (leaf v5 0) fun n6 => idxL x.1 n6 fun v7 => asStr (leaf v7 0) fun s8 => app 16 x.2.2.1 [(.str s8)] fun l9 => rec (x.1,x.2.1,l9,x.2.2.2.1,x.2.2.2.2.1,(IntKind.wrap .i64 (x.2.2.2.2.2.1 + 1)),()) S) (J0 (x.2.1,x.2.2.1,()) S)
def L0 (k : Nat) : Pc PG R (.loop (su Tryz.f7 607)) := mkLoop T_ok (C k) _ m0 k (.seq .auto (.seq (.cond .auto (.mask e0 .auto)) (.seq (.block (.seq .auto (.own [(0,1)]))) .auto))) ⟨tr,⟨tr,tr⟩,⟨tr,tr⟩,tr⟩ (fun K => b0 k (kX K 0 e0))
def fn0 (k : Nat) (x : (LL × LL × U1)) (S : LL) (K : Kt R (LL × Int × U1)) : Option R :=
 steps_open.fn k (x.1,()) S fun r1 S => ifB (r1.2.1 != 0) (K ([],r1.2) S) (asPtr r1.1 fun i2 p3 => steps_plan_closure.fn k ((i2,p3),x.2) S fun r4 S => rounds (b0 k (fun o10 S => K (o10.2.1,o10.1,()) S)) k (x.1,r4.2.1,[],r4.1,(r4.1.length : Int),0,()) S)
def en0 (k : Nat) : Ent PG R := mkFn T_ok Tryz.func7 ps rs (C k) (.seq .auto (.seq (.own [(2,1)]) (.seq (.seq .auto (.cond (.seq .auto (.mask mr .auto)) .auto)) (.seq (.asp 6 (.own [(0,2),(3,1)])) (.seq .auto (.seq (.seq .auto (.block (.piece (L0 k).h))) (.seq (.own [(0,1)]) (.mask mr .auto)))))))) ⟨tr,tr,⟨tr,⟨tr,tr⟩,tr⟩,tr,tr,⟨tr,(L0 k).ok⟩,tr,tr⟩ (fn0 k)
def fn (k : Nat) (x : (LL × LL × U1)) (S : LL) (K : Kt R (LL × Int × U1)) : Option R := popK rs 6 S (fn0 k x S fun r S => some (resE rs r,S)) K
def en (k : Nat) : Ent PG R := mkPop (rs := rs) (en0 k).ok
end G.steps_Order
namespace G.smithyardref1_within
abbrev ps : Mk := sI (sI (sI []))
abbrev rs : Mk := sB []
abbrev mr : Mk := n6 (sB (n8 []))
def C (k : Nat) : List (Ent PG R) := []
def fn (k : Nat) (x : (Int × Int × Int × U1)) (S : LL) (K : Kt R (Bool × U1)) : Option R :=
 ifB (decide (x.1 ≥ x.2.1)) (K ((decide (x.1 ≤ x.2.2.1)),()) S) (K (false,()) S)
def en (k : Nat) : Ent PG R := mkFn T_ok Tryz.func69 ps rs (C k) (.seq .auto (.seq .auto (.mask mr .auto))) ⟨tr,tr,tr⟩ (fn k)
end G.smithyardref1_within
namespace G.smithyardref1_partByte
abbrev ps : Mk := sh (.lf (.int .u8)) []
abbrev rs : Mk := sB []
abbrev mr : Mk := n2 (sB (nM 38 []))
def C (k : Nat) : List (Ent PG R) := []
def fn (k : Nat) (x : (Int × U1)) (S : LL) (K : Kt R (Bool × U1)) : Option R :=
 ifB (decide (x.1 ≥ 97)) (ifB (decide (x.1 ≤ 122)) (K (true,()) S) (ifB (decide (x.1 ≥ 65)) (ifB (decide (x.1 ≤ 90)) (K (true,()) S) (ifB (decide (x.1 ≥ 48)) (ifB (decide (x.1 ≤ 57)) (K (true,()) S) (ifB (x.1 == 46) (K (true,()) S) (ifB (x.1 == 95) (K (true,()) S) (ifB (x.1 == 45) (K (true,()) S) (K ((x.1 == 43),()) S))))) (ifB (x.1 == 46) (K (true,()) S) (ifB (x.1 == 95) (K (true,()) S) (ifB (x.1 == 45) (K (true,()) S) (K ((x.1 == 43),()) S)))))) (ifB (decide (x.1 ≥ 48)) (ifB (decide (x.1 ≤ 57)) (K (true,()) S) (ifB (x.1 == 46) (K (true,()) S) (ifB (x.1 == 95) (K (true,()) S) (ifB (x.1 == 45) (K (true,()) S) (K ((x.1 == 43),()) S))))) (ifB (x.1 == 46) (K (true,()) S) (ifB (x.1 == 95) (K (true,()) S) (ifB (x.1 == 45) (K (true,()) S) (K ((x.1 == 43),()) S))))))) (ifB (decide (x.1 ≥ 65)) (ifB (decide (x.1 ≤ 90)) (K (true,()) S) (ifB (decide (x.1 ≥ 48)) (ifB (decide (x.1 ≤ 57)) (K (true,()) S) (ifB (x.1 == 46) (K (true,()) S) (ifB (x.1 == 95) (K (true,()) S) (ifB (x.1 == 45) (K (true,()) S) (K ((x.1 == 43),()) S))))) (ifB (x.1 == 46) (K (true,()) S) (ifB (x.1 == 95) (K (true,()) S) (ifB (x.1 == 45) (K (true,()) S) (K ((x.1 == 43),()) S)))))) (ifB (decide (x.1 ≥ 48)) (ifB (decide (x.1 ≤ 57)) (K (true,()) S) (ifB (x.1 == 46) (K (true,()) S) (ifB (x.1 == 95) (K (true,()) S) (ifB (x.1 == 45) (K (true,()) S) (K ((x.1 == 43),()) S))))) (ifB (x.1 == 46) (K (true,()) S) (ifB (x.1 == 95) (K (true,()) S) (ifB (x.1 == 45) (K (true,()) S) (K ((x.1 == 43),()) S))))))
def en (k : Nat) : Ent PG R := mkFn T_ok Tryz.func101 ps rs (C k) (.seq .auto (.seq .auto (.mask mr .auto))) ⟨tr,tr,tr⟩ (fn k)
end G.smithyardref1_partByte
namespace G.smithyardref1_isPart
abbrev ps : Mk := sS []
abbrev rs : Mk := sB []
abbrev e0 : Mk := sS (nM 24 [])
abbrev m0 : Mk := sS (n2 (sI (nM 21 [])))
abbrev mr : Mk := n2 (sB (nM 22 []))
def C (k : Nat) : List (Ent PG R) := [smithyardref1_partByte.en k]
def b0 (k : Nat) (J0 : Kt R (BA × U1)) (Jret : Kt R (Bool × U1)) (rec : Kt R (BA × Int × U1)) (x : (BA × Int × U1)) (S : LL) : Option R :=
 ifB (decide (x.2.1 < (x.1.size : Int))) (idxStr x.1 x.2.1 fun c1 => smithyardref1_partByte.fn k (c1,()) S fun r2 S => ifB (!r2.1) (Jret (false,()) S) (rec (x.1,(IntKind.wrap .i64 (x.2.1 + 1)),()) S)) (J0 (x.1,()) S)
def L0 (k : Nat) : Pc PG R (.loop (su Tryz.f70 37)) := mkLoop T_ok (C k) _ m0 k (.seq (.seq .auto (.cond .auto (.mask e0 .auto))) (.seq (.block (.seq .auto (.cond (.seq .auto (.mask mr .auto)) .auto))) .auto)) ⟨⟨tr,tr,tr⟩,⟨tr,⟨tr,tr⟩,tr⟩,tr⟩ (fun K => b0 k (kX K 0 e0) (kR K mr))
def fn (k : Nat) (x : (BA × U1)) (S : LL) (K : Kt R (Bool × U1)) : Option R :=
 rounds (b0 k (fun o3 S => ifB (!(strEq o3.1 (bs []))) (ifB (!(strEq o3.1 (bs [46]))) (K ((!(strEq o3.1 (bs [46,46]))),()) S) (K (false,()) S)) (K (false,()) S)) K) k (x.1,0,()) S
def en (k : Nat) : Ent PG R := mkFn T_ok Tryz.func70 ps rs (C k) (.seq .auto (.seq (.seq .auto (.block (.piece (L0 k).h))) (.seq .auto (.mask mr .auto)))) ⟨tr,⟨tr,(L0 k).ok⟩,tr,tr⟩ (fn k)
end G.smithyardref1_isPart
namespace G.smithyardref1_IsPath
abbrev ps : Mk := sS []
abbrev rs : Mk := sB []
abbrev e0 : Mk := nM 23 []
abbrev m0 : Mk := n3 (sL 1 (sI (nM 18 [])))
abbrev mr : Mk := n2 (sB (nM 20 []))
def C (k : Nat) : List (Ent PG R) := [strings_Split.en k,smithyardref1_within.en k,smithyardref1_isPart.en k]
def b0 (k : Nat) (J0 : Kt R (U1)) (Jret : Kt R (Bool × U1)) (rec : Kt R (LL × Int × U1)) (x : (LL × Int × U1)) (S : LL) : Option R :=
 ifB (decide (x.2.1 < (x.1.length : Int))) (idxL x.1 x.2.1 fun v3 => asStr (leaf v3 0) fun s4 => smithyardref1_isPart.fn k (s4,()) S fun r5 S => ifB (!r5.1) (Jret (false,()) S) (rec (x.1,(IntKind.wrap .i64 (x.2.1 + 1)),()) S)) (J0 (()) S)
def L0 (k : Nat) : Pc PG R (.loop (su Tryz.f41 151)) := mkLoop T_ok (C k) _ m0 k (.seq (.seq .auto (.cond .auto (.mask e0 .auto))) (.seq (.block (.seq .auto (.cond (.seq .auto (.mask mr .auto)) .auto))) .auto)) ⟨⟨tr,tr,tr⟩,⟨tr,⟨tr,tr⟩,tr⟩,tr⟩ (fun K => b0 k (kX K 0 e0) (kR K mr))
def fn (k : Nat) (x : (BA × U1)) (S : LL) (K : Kt R (Bool × U1)) : Option R :=
 smithyardref1_within.fn k ((x.1.size : Int),1,200,()) S fun r1 S => ifB (!r1.1) (K (false,()) S) (strings_Split.fn k (x.1,(bs [47]),()) S fun r2 S => rounds (b0 k (fun o6 S => K (true,()) S) K) k (r2.1,0,()) S)
def en (k : Nat) : Ent PG R := mkFn T_ok Tryz.func41 ps rs (C k) (.seq .auto (.seq (.seq .auto (.cond (.seq .auto (.mask mr .auto)) .auto)) (.seq .auto (.seq (.seq .auto (.block (.piece (L0 k).h))) (.seq .auto (.mask mr .auto)))))) ⟨tr,⟨tr,⟨tr,tr⟩,tr⟩,tr,⟨tr,(L0 k).ok⟩,tr,tr⟩ (fn k)
end G.smithyardref1_IsPath
namespace G.smithyardref1_IsDigest
abbrev ps : Mk := sS []
abbrev rs : Mk := sB []
abbrev c0 : Mk := sS (n2 (sI (nM 32 [])))
abbrev e0 : Mk := sS (nM 35 [])
abbrev mr : Mk := n2 (sB (nM 33 []))
abbrev T0 := BA × Int × U1
def C (k : Nat) : List (Ent PG R) := []
def q0 (k : Nat) (Jnrm : Kt R T0)  (x : T0) (S : LL) : Option R :=
 Jnrm (x.1,(IntKind.wrap .i64 (x.2.1 + 1)),()) S
def Q0 (k : Nat) : Pc PG R (su Tryz.f93 229) := mkEnd T_ok (C k) _ c0 c0 (.auto) tr (fun x S K => q0 k (kN K c0) x S)
def b0 (k : Nat) (J0 : Kt R (BA × U1)) (Jret : Kt R (Bool × U1)) (rec : Kt R T0) (x : T0) (S : LL) : Option R :=
 ifB (decide (x.2.1 < (x.1.size : Int))) (idxStr x.1 x.2.1 fun c1 => ifB (decide (c1 ≥ 48)) (idxStr x.1 x.2.1 fun c2 => ifB (decide (c2 ≤ 57)) (ifB (!true) (Jret (false,()) S) (q0 k rec x S)) (idxStr x.1 x.2.1 fun c4 => ifB (decide (c4 ≥ 97)) (idxStr x.1 x.2.1 fun c5 => ifB (!(decide (c5 ≤ 102))) (Jret (false,()) S) (q0 k rec x S)) (ifB (!false) (Jret (false,()) S) (q0 k rec x S)))) (idxStr x.1 x.2.1 fun c8 => ifB (decide (c8 ≥ 97)) (idxStr x.1 x.2.1 fun c9 => ifB (!(decide (c9 ≤ 102))) (Jret (false,()) S) (q0 k rec x S)) (ifB (!false) (Jret (false,()) S) (q0 k rec x S)))) (J0 (x.1,()) S)
def L0 (k : Nat) : Pc PG R (.loop (su Tryz.f93 37)) := mkLoop T_ok (C k) _ c0 k (.seq (.seq .auto (.cond .auto (.mask e0 .auto))) (.seq (.block (.seq .auto (.cond (.seq .auto (.mask mr .auto)) .auto))) (.piece (Q0 k).h))) ⟨⟨tr,tr,tr⟩,⟨tr,⟨tr,tr⟩,tr⟩,(Q0 k).ok⟩ (fun K => b0 k (kX K 0 e0) (kR K mr))
def fn (k : Nat) (x : (BA × U1)) (S : LL) (K : Kt R (Bool × U1)) : Option R :=
 rounds (b0 k (fun o12 S => K (((o12.1.size : Int) == 16),()) S) K) k (x.1,0,()) S
def en (k : Nat) : Ent PG R := mkFn T_ok Tryz.func93 ps rs (C k) (.seq .auto (.seq (.seq .auto (.block (.piece (L0 k).h))) (.seq .auto (.mask mr .auto)))) ⟨tr,⟨tr,(L0 k).ok⟩,tr,tr⟩ (fn k)
end G.smithyardref1_IsDigest
namespace G.smithyardref5_within
abbrev ps : Mk := sI (sI (sI []))
abbrev rs : Mk := sB []
abbrev mr : Mk := n6 (sB (n8 []))
def C (k : Nat) : List (Ent PG R) := []
def fn (k : Nat) (x : (Int × Int × Int × U1)) (S : LL) (K : Kt R (Bool × U1)) : Option R :=
 ifB (decide (x.1 ≥ x.2.1)) (K ((decide (x.1 ≤ x.2.2.1)),()) S) (K (false,()) S)
def en (k : Nat) : Ent PG R := mkFn T_ok Tryz.func97 ps rs (C k) (.seq .auto (.seq .auto (.mask mr .auto))) ⟨tr,tr,tr⟩ (fn k)
end G.smithyardref5_within
namespace G.smithyardref5_bytesIn
abbrev ps : Mk := sS (sh (.lf (.int .u8)) (sh (.lf (.int .u8)) []))
abbrev rs : Mk := sB []
abbrev e0 : Mk := nM 26 []
abbrev m0 : Mk := sS (sh (.lf (.int .u8)) (sh (.lf (.int .u8)) (n4 (sI (nM 18 [])))))
abbrev mr : Mk := n6 (sB (nM 19 []))
abbrev T0 := BA × Int × Int × Int × U1
def C (k : Nat) : List (Ent PG R) := []
def b0 (k : Nat) (J0 : Kt R (U1)) (Jret : Kt R (Bool × U1)) (rec : Kt R T0) (x : T0) (S : LL) : Option R :=
 ifB (decide (x.2.2.2.1 < (x.1.size : Int))) (idxStr x.1 x.2.2.2.1 fun c1 => ifB (decide (c1 < x.2.1)) (Jret (false,()) S) (idxStr x.1 x.2.2.2.1 fun c2 => ifB (decide (c2 > x.2.2.1)) (Jret (false,()) S) (rec (x.1,x.2.1,x.2.2.1,(IntKind.wrap .i64 (x.2.2.2.1 + 1)),()) S))) (J0 (()) S)
def L0 (k : Nat) : Pc PG R (.loop (su Tryz.f126 37)) := mkLoop T_ok (C k) _ m0 k (.seq (.seq .auto (.cond .auto (.mask e0 .auto))) (.seq (.block (.seq .auto (.cond (.seq .auto (.mask mr .auto)) .auto))) .auto)) ⟨⟨tr,tr,tr⟩,⟨tr,⟨tr,tr⟩,tr⟩,tr⟩ (fun K => b0 k (kX K 0 e0) (kR K mr))
def fn (k : Nat) (x : (BA × Int × Int × U1)) (S : LL) (K : Kt R (Bool × U1)) : Option R :=
 rounds (b0 k (fun o3 S => K (true,()) S) K) k (x.1,x.2.1,x.2.2.1,0,()) S
def en (k : Nat) : Ent PG R := mkFn T_ok Tryz.func126 ps rs (C k) (.seq .auto (.seq (.seq .auto (.block (.piece (L0 k).h))) (.seq .auto (.mask mr .auto)))) ⟨tr,⟨tr,(L0 k).ok⟩,tr,tr⟩ (fn k)
end G.smithyardref5_bytesIn
namespace G.smithyardref5_form
abbrev ps : Mk := sS []
abbrev rs : Mk := sS (sB [])
abbrev c0 : Mk := n4 (sS (n2 (sB (nM 21 []))))
abbrev c1 : Mk := n4 (sS (nX (sB (nM 13 []))))
abbrev c2 : Mk := n4 (sS (nM 12 (sB (nM 11 []))))
abbrev c3 : Mk := n4 (sS (nM 14 (sB (n9 []))))
abbrev c4 : Mk := n4 (sS (nM 16 (sB (n7 []))))
abbrev c5 : Mk := n4 (sS (nM 18 (sB (n5 []))))
abbrev c6 : Mk := n4 (sS (nM 20 (sB (n3 []))))
abbrev z0 : Mk := nM 29 []
abbrev mr : Mk := n2 (sS (sB (nM 25 [])))
abbrev T0 := BA × Bool × U1
def C (k : Nat) : List (Ent PG R) := []
def q6 (k : Nat) (Jnrm : Kt R (U1)) (Jret : Kt R T0) (x : T0) (S : LL) : Option R :=
 ifB x.2.1 (Jret ((bs [112]),true,()) S) (ifB (strEq x.1 (bs [102,97,105,108])) (Jret ((bs [110]),true,()) S) (Jnrm (()) S))
def Q6 (k : Nat) : Pc PG R (su Tryz.f127 1048565) := mkEnd T_ok (C k) _ c6 z0 (.cond (.seq .auto (.mask mr .auto)) (.seq .auto (.cond (.seq .auto (.mask mr .auto)) .auto))) ⟨⟨tr,tr⟩,tr,⟨tr,tr⟩,tr⟩ (fun x S K => q6 k (kN K z0) (kR K mr) x S)
def q5 (k : Nat) (Jnrm : Kt R (U1)) (Jret : Kt R T0) (x : T0) (S : LL) : Option R :=
 ifB x.2.1 (Jret ((bs [119,43]),true,()) S) (q6 k (fun o1 S => Jnrm (()) S) Jret (x.1,(strEq x.1 (bs [110,101,101,100])),()) S)
def Q5 (k : Nat) : Pc PG R (su Tryz.f127 262133) := mkEnd T_ok (C k) _ c5 z0 (.cond (.seq .auto (.mask mr .auto)) (.seq .auto (.piece (Q6 k).h))) ⟨⟨tr,tr⟩,tr,(Q6 k).ok⟩ (fun x S K => q5 k (kN K z0) (kR K mr) x S)
def q4 (k : Nat) (Jnrm : Kt R (U1)) (Jret : Kt R T0) (x : T0) (S : LL) : Option R :=
 ifB x.2.1 (Jret ((bs [112,119]),true,()) S) (q5 k (fun o3 S => Jnrm (()) S) Jret (x.1,(strEq x.1 (bs [116,101,108,108])),()) S)
def Q4 (k : Nat) : Pc PG R (su Tryz.f127 65525) := mkEnd T_ok (C k) _ c4 z0 (.cond (.seq .auto (.mask mr .auto)) (.seq .auto (.piece (Q5 k).h))) ⟨⟨tr,tr⟩,tr,(Q5 k).ok⟩ (fun x S K => q4 k (kN K z0) (kR K mr) x S)
def q3 (k : Nat) (Jnrm : Kt R (U1)) (Jret : Kt R T0) (x : T0) (S : LL) : Option R :=
 ifB x.2.1 (Jret ((bs [112,112,112,43]),true,()) S) (q4 k (fun o5 S => Jnrm (()) S) Jret (x.1,(strEq x.1 (bs [118,97,114])),()) S)
def Q3 (k : Nat) : Pc PG R (su Tryz.f127 16373) := mkEnd T_ok (C k) _ c3 z0 (.cond (.seq .auto (.mask mr .auto)) (.seq .auto (.piece (Q4 k).h))) ⟨⟨tr,tr⟩,tr,(Q4 k).ok⟩ (fun x S K => q3 k (kN K z0) (kR K mr) x S)
def q2 (k : Nat) (Jnrm : Kt R (U1)) (Jret : Kt R T0) (x : T0) (S : LL) : Option R :=
 ifB x.2.1 (Jret ((bs [112,119,119,112]),true,()) S) (q3 k (fun o7 S => Jnrm (()) S) Jret (x.1,(strEq x.1 (bs [112,105,99,107])),()) S)
def Q2 (k : Nat) : Pc PG R (su Tryz.f127 4085) := mkEnd T_ok (C k) _ c2 z0 (.cond (.seq .auto (.mask mr .auto)) (.seq .auto (.piece (Q3 k).h))) ⟨⟨tr,tr⟩,tr,(Q3 k).ok⟩ (fun x S K => q2 k (kN K z0) (kR K mr) x S)
def q1 (k : Nat) (Jnrm : Kt R (U1)) (Jret : Kt R T0) (x : T0) (S : LL) : Option R :=
 ifB x.2.1 (Jret ((bs [112,110,112]),true,()) S) (q2 k (fun o9 S => Jnrm (()) S) Jret (x.1,(strEq x.1 (bs [99,104,97,110,103,101])),()) S)
def Q1 (k : Nat) : Pc PG R (su Tryz.f127 1013) := mkEnd T_ok (C k) _ c1 z0 (.cond (.seq .auto (.mask mr .auto)) (.seq .auto (.piece (Q2 k).h))) ⟨⟨tr,tr⟩,tr,(Q2 k).ok⟩ (fun x S K => q1 k (kN K z0) (kR K mr) x S)
def q0 (k : Nat) (Jnrm : Kt R (U1)) (Jret : Kt R T0) (x : T0) (S : LL) : Option R :=
 ifB x.2.1 (Jret ((bs [112,112]),true,()) S) (q1 k (fun o11 S => Jnrm (()) S) Jret (x.1,(strEq x.1 (bs [102,105,114,115,116])),()) S)
def Q0 (k : Nat) : Pc PG R (su Tryz.f127 245) := mkEnd T_ok (C k) _ c0 z0 (.cond (.seq .auto (.mask mr .auto)) (.seq .auto (.piece (Q1 k).h))) ⟨⟨tr,tr⟩,tr,(Q1 k).ok⟩ (fun x S K => q0 k (kN K z0) (kR K mr) x S)
def fn (k : Nat) (x : (BA × U1)) (S : LL) (K : Kt R T0) : Option R :=
 ifB (strEq x.1 (bs [106,111,105,110])) (K ((bs [112,112,43]),true,()) S) (ifB (strEq x.1 (bs [115,111,114,116])) (q0 k (fun o13 S => K ((bs []),false,()) S) K (x.1,(strEq x.1 (bs [115,111,114,116])),()) S) (ifB (strEq x.1 (bs [99,111,117,110,116])) (q0 k (fun o15 S => K ((bs []),false,()) S) K (x.1,(strEq x.1 (bs [99,111,117,110,116])),()) S) (ifB (strEq x.1 (bs [101,120,112,97,110,100])) (q0 k (fun o17 S => K ((bs []),false,()) S) K (x.1,(strEq x.1 (bs [101,120,112,97,110,100])),()) S) (ifB (strEq x.1 (bs [109,97,107,101])) (q0 k (fun o19 S => K ((bs []),false,()) S) K (x.1,(strEq x.1 (bs [109,97,107,101])),()) S) (ifB (strEq x.1 (bs [100,105,103,101,115,116])) (q0 k (fun o21 S => K ((bs []),false,()) S) K (x.1,(strEq x.1 (bs [100,105,103,101,115,116])),()) S) (ifB (strEq x.1 (bs [108,105,115,116])) (q0 k (fun o23 S => K ((bs []),false,()) S) K (x.1,(strEq x.1 (bs [108,105,115,116])),()) S) (q0 k (fun o25 S => K ((bs []),false,()) S) K (x.1,(strEq x.1 (bs [115,97,109,101])),()) S)))))))
def en (k : Nat) : Ent PG R := mkFn T_ok Tryz.func127 ps rs (C k) (.seq .auto (.seq (.seq .auto (.block (.seq .auto (.cond (.seq .auto (.mask mr .auto)) (.seq (.seq .auto (.cond .auto (.seq .auto (.cond .auto (.seq .auto (.cond .auto (.seq .auto (.cond .auto (.seq .auto (.cond .auto (.seq .auto (.cond .auto .auto)))))))))))) (.piece (Q0 k).h)))))) (.seq .auto (.mask mr .auto)))) ⟨tr,⟨tr,tr,⟨tr,tr⟩,⟨tr,tr,tr,tr,tr,tr,tr,tr,tr,tr,tr,tr,tr⟩,(Q0 k).ok⟩,tr,tr⟩ (fn k)
end G.smithyardref5_form
namespace G.smithyardref5_numbered
abbrev ps : Mk := sS (sI [])
abbrev rs : Mk := sI (sB [])
abbrev c0 : Mk := sS (nM 36 [])
abbrev c1 : Mk := n6 (sI (nM 30 []))
abbrev mr : Mk := n4 (sI (sB (nM 31 [])))
abbrev T0 := Int × Bool × U1
def C (k : Nat) : List (Ent PG R) := [smithyardref5_bytesIn.en k,⟨214,H.Atoi.h k,H.Atoi.ok k⟩]
def q1 (k : Nat) (Jret : Kt R T0) (x : (Int × U1)) (S : LL) : Option R :=
 Jret (x.1,true,()) S
def Q1 (k : Nat) : Pc PG R (su Tryz.f204 15) := mkCut T_ok (C k) _ c1 (.seq .auto (.mask mr .auto)) ⟨tr,tr⟩ (fun x S K => q1 k (kR K mr) x S)
def q0 (k : Nat) (Jret : Kt R T0) (x : (BA × U1)) (S : LL) : Option R :=
 H.Atoi.fn k x S fun r3 S => q1 k Jret (r3.1,()) S
def Q0 (k : Nat) : Pc PG R (su Tryz.f204 7) := mkCut T_ok (C k) _ c0 (.seq (.own [(2,1)]) (.piece (Q1 k).h)) ⟨tr,(Q1 k).ok⟩ (fun x S K => q0 k (kR K mr) x S)
def fn (k : Nat) (x : (BA × Int × U1)) (S : LL) (K : Kt R T0) : Option R :=
 ifB (strEq x.1 (bs [])) (K (0,false,()) S) (ifB (decide ((x.1.size : Int) > x.2.1)) (K (0,false,()) S) (ifB (decide ((x.1.size : Int) > 1)) (idxStr x.1 (0 : Int) fun c1 => ifB (c1 == 48) (K (0,false,()) S) (smithyardref5_bytesIn.fn k (x.1,48,57,()) S fun r2 S => ifB (!r2.1) (K (0,false,()) S) (q0 k K (x.1,()) S))) (smithyardref5_bytesIn.fn k (x.1,48,57,()) S fun r6 S => ifB (!r6.1) (K (0,false,()) S) (q0 k K (x.1,()) S))))
def en (k : Nat) : Ent PG R := mkFn T_ok Tryz.func204 ps rs (C k) (.seq .auto (.seq (.seq .auto (.cond (.seq .auto (.mask mr .auto)) .auto)) (.piece (Q0 k).h))) ⟨tr,⟨tr,⟨tr,tr⟩,tr⟩,(Q0 k).ok⟩ (fn k)
end G.smithyardref5_numbered
namespace G.smithyardref5_fits
abbrev ps : Mk := sh (.lf (.int .u8)) (sS [])
abbrev rs : Mk := sB []
abbrev mr : Mk := n4 (sB (nM 15 []))
def C (k : Nat) : List (Ent PG R) := [smithyardref1_IsPath.en k,smithyardref5_numbered.en k]
def fn (k : Nat) (x : (Int × BA × U1)) (S : LL) (K : Kt R (Bool × U1)) : Option R :=
 ifB (x.1 == 112) (smithyardref1_IsPath.fn k x.2 S K) (ifB (x.1 == 110) (smithyardref5_numbered.fn k (x.2.1,6,()) S fun r2 S => K r2.2 S) (K (true,()) S))
def en (k : Nat) : Ent PG R := mkFn T_ok Tryz.func179 ps rs (C k) (.seq .auto (.seq (.seq .auto (.block (.seq .auto (.cond (.seq .auto (.mask mr .auto)) (.seq .auto (.cond (.seq (.own [(2,1)]) (.seq .auto (.mask mr .auto))) .auto)))))) (.seq .auto (.mask mr .auto)))) ⟨tr,⟨tr,tr,⟨tr,tr⟩,tr,⟨tr,tr,tr⟩,tr⟩,tr,tr⟩ (fn k)
end G.smithyardref5_fits
end Go.Lm
end
