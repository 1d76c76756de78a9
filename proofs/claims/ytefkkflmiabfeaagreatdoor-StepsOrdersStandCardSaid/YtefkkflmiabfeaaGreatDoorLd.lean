/- Parts of the proof: LmX, LmS, LmU, LmU2, LmU3, LmU4, LmU5, LmU6, LmR, LmR2, LmR3, LmR4, LmL, LmL2, LmN, LmM, LmO, LmO2. -/
import Derived.Test.YtefkkflmiabfeaaGreatDoorLc
import Derived.Sort.Walk0
import Derived.Laws.Closers25b
import Derived.Laws.RangeString
import Derived.Laws.RangeAny
import Derived.Lib.SplitLaws
import Derived.Lib.IndexLaws
import Derived.Lib.ItoaNum
import Derived.Lib.AtoiAll
import Derived.Lib.AtoiErr
set_option linter.unusedVariables false
set_option linter.unusedSimpArgs false
set_option maxRecDepth 100000
set_option linter.unusedVariables false
noncomputable section
namespace Go.Lm
open Go.Proofs
variable {R : Type}
namespace G.strings_Split
abbrev ps : Mk := sS (sS [])
abbrev rs : Mk := sL 1 []
abbrev mr : Mk := n4 (sL 1 (n3 []))
def C (k : Nat) : List (Ent PG R) := [⟨99,H.genSplit.h k,H.genSplit.ok k⟩]
def fn (k : Nat) (x : (BA × BA × U1)) (S : LL) (K : Kt R (LL × U1)) : Option R :=
 H.genSplit.fn k (x.1,x.2.1,0,(-1 : Int),()) S K
def en (k : Nat) : Ent PG R := mkFn T_ok Tryz.func65 ps rs (C k) (.seq .auto (.seq .auto (.mask mr .auto))) ⟨tr,tr,tr⟩ (fn k)
end G.strings_Split
namespace G.strings_IndexByte
abbrev ps : Mk := sS (sh (.lf (.int .u8)) [])
abbrev rs : Mk := sI []
abbrev mr : Mk := n4 (sI (n3 []))
def C (k : Nat) : List (Ent PG R) := [⟨185,H.IndexByte.h k,H.IndexByte.ok k⟩]
def fn (k : Nat) (x : (BA × Int × U1)) (S : LL) (K : Kt R (Int × U1)) : Option R :=
 H.IndexByte.fn k x S K
def en (k : Nat) : Ent PG R := mkFn T_ok Tryz.func134 ps rs (C k) (.seq .auto (.seq .auto (.mask mr .auto))) ⟨tr,tr,tr⟩ (fn k)
end G.strings_IndexByte
namespace G.blob_inPart
abbrev ps : Mk := sh (.lf (.int .u8)) []
abbrev rs : Mk := sB []
abbrev mr : Mk := n2 (sB (nM 27 []))
def C (k : Nat) : List (Ent PG R) := [strings_IndexByte.en k]
def fn (k : Nat) (x : (Int × U1)) (S : LL) (K : Kt R (Bool × U1)) : Option R :=
 ifB (decide (x.1 ≥ 97)) (ifB (decide (x.1 ≤ 122)) (K (true,()) S) (ifB (decide (x.1 ≥ 65)) (ifB (decide (x.1 ≤ 90)) (K (true,()) S) (ifB (decide (x.1 ≥ 48)) (ifB (decide (x.1 ≤ 57)) (K (true,()) S) (strings_IndexByte.fn k ((bs [46,95,45,43]),x) S fun r1 S => K ((decide (r1.1 ≥ 0)),()) S)) (strings_IndexByte.fn k ((bs [46,95,45,43]),x) S fun r2 S => K ((decide (r2.1 ≥ 0)),()) S))) (ifB (decide (x.1 ≥ 48)) (ifB (decide (x.1 ≤ 57)) (K (true,()) S) (strings_IndexByte.fn k ((bs [46,95,45,43]),x) S fun r3 S => K ((decide (r3.1 ≥ 0)),()) S)) (strings_IndexByte.fn k ((bs [46,95,45,43]),x) S fun r4 S => K ((decide (r4.1 ≥ 0)),()) S)))) (ifB (decide (x.1 ≥ 65)) (ifB (decide (x.1 ≤ 90)) (K (true,()) S) (ifB (decide (x.1 ≥ 48)) (ifB (decide (x.1 ≤ 57)) (K (true,()) S) (strings_IndexByte.fn k ((bs [46,95,45,43]),x) S fun r5 S => K ((decide (r5.1 ≥ 0)),()) S)) (strings_IndexByte.fn k ((bs [46,95,45,43]),x) S fun r6 S => K ((decide (r6.1 ≥ 0)),()) S))) (ifB (decide (x.1 ≥ 48)) (ifB (decide (x.1 ≤ 57)) (K (true,()) S) (strings_IndexByte.fn k ((bs [46,95,45,43]),x) S fun r7 S => K ((decide (r7.1 ≥ 0)),()) S)) (strings_IndexByte.fn k ((bs [46,95,45,43]),x) S fun r8 S => K ((decide (r8.1 ≥ 0)),()) S)))
def en (k : Nat) : Ent PG R := mkFn T_ok Tryz.func100 ps rs (C k) (.seq .auto (.seq .auto (.mask mr .auto))) ⟨tr,tr,tr⟩ (fn k)
end G.blob_inPart
namespace G.blob_isPart
abbrev ps : Mk := sS []
abbrev rs : Mk := sB []
abbrev e0 : Mk := sS (nM 24 [])
abbrev m0 : Mk := sS (n4 (sI (sI (nM 18 []))))
abbrev mr : Mk := n2 (sB (nM 22 []))
abbrev T0 := BA × Int × Int × U1
def C (k : Nat) : List (Ent PG R) := [blob_inPart.en k]
def b0 (k : Nat) (J0 : Kt R (BA × U1)) (Jret : Kt R (Bool × U1)) (rec : Kt R T0) (x : T0) (S : LL) : Option R :=
 ifB (decide (x.2.2.1 < x.2.1)) (idxStr x.1 x.2.2.1 fun c1 => blob_inPart.fn k (c1,()) S fun r2 S => ifB (!r2.1) (Jret (false,()) S) (rec (x.1,x.2.1,(IntKind.wrap .i64 (x.2.2.1 + 1)),()) S)) (J0 (x.1,()) S)
def L0 (k : Nat) : Pc PG R (.loop (su Tryz.f66 37)) := mkLoop T_ok (C k) _ m0 k (.seq .auto (.seq (.cond .auto (.mask e0 .auto)) (.seq (.block (.seq .auto (.seq .auto (.cond (.seq .auto (.mask mr .auto)) .auto)))) .auto))) ⟨tr,⟨tr,tr⟩,⟨tr,tr,⟨tr,tr⟩,tr⟩,tr⟩ (fun K => b0 k (kX K 0 e0) (kR K mr))
def fn (k : Nat) (x : (BA × U1)) (S : LL) (K : Kt R (Bool × U1)) : Option R :=
 rounds (b0 k (fun o3 S => ifB (!(strEq o3.1 (bs []))) (ifB (!(strEq o3.1 (bs [46]))) (K ((!(strEq o3.1 (bs [46,46]))),()) S) (K (false,()) S)) (K (false,()) S)) K) k (x.1,(x.1.size : Int),0,()) S
def en (k : Nat) : Ent PG R := mkFn T_ok Tryz.func66 ps rs (C k) (.seq .auto (.seq (.seq .auto (.block (.piece (L0 k).h))) (.seq .auto (.mask mr .auto)))) ⟨tr,⟨tr,(L0 k).ok⟩,tr,tr⟩ (fn k)
end G.blob_isPart
namespace G.blob_IsPath
abbrev ps : Mk := sS []
abbrev rs : Mk := sB []
abbrev e0 : Mk := nM 24 []
abbrev m0 : Mk := nM 14 (sL 1 (sI (sI (n7 []))))
abbrev mr : Mk := n2 (sB (nM 21 []))
abbrev T0 := LL × Int × Int × U1
def C (k : Nat) : List (Ent PG R) := [strings_Split.en k,blob_isPart.en k]
def b0 (k : Nat) (J0 : Kt R (U1)) (Jret : Kt R (Bool × U1)) (rec : Kt R T0) (x : T0) (S : LL) : Option R :=
 ifB (decide (x.2.2.1 < x.2.1)) (idxL x.1 x.2.2.1 fun v2 => asStr (leaf v2 0) fun s3 => blob_isPart.fn k (s3,()) S fun r4 S => ifB (!r4.1) (Jret (false,()) S) (rec (x.1,x.2.1,(IntKind.wrap .i64 (x.2.2.1 + 1)),()) S)) (J0 (()) S)
def L0 (k : Nat) : Pc PG R (.loop (su Tryz.f35 75)) := mkLoop T_ok (C k) _ m0 k (.seq .auto (.seq (.cond .auto (.mask e0 .auto)) (.seq (.block (.seq .auto (.seq .auto (.cond (.seq .auto (.mask mr .auto)) .auto)))) .auto))) ⟨tr,⟨tr,tr⟩,⟨tr,tr,⟨tr,tr⟩,tr⟩,tr⟩ (fun K => b0 k (kX K 0 e0) (kR K mr))
def fn (k : Nat) (x : (BA × U1)) (S : LL) (K : Kt R (Bool × U1)) : Option R :=
 ifB (decide ((x.1.size : Int) < 1)) (K (false,()) S) (ifB (decide ((x.1.size : Int) > 200)) (K (false,()) S) (strings_Split.fn k (x.1,(bs [47]),()) S fun r1 S => rounds (b0 k (fun o5 S => K (true,()) S) K) k (r1.1,(r1.1.length : Int),0,()) S))
def en (k : Nat) : Ent PG R := mkFn T_ok Tryz.func35 ps rs (C k) (.seq .auto (.seq (.seq .auto (.cond (.seq .auto (.mask mr .auto)) .auto)) (.seq (.seq .auto (.block (.piece (L0 k).h))) (.seq .auto (.mask mr .auto))))) ⟨tr,⟨tr,⟨tr,tr⟩,tr⟩,⟨tr,(L0 k).ok⟩,tr,tr⟩ (fn k)
end G.blob_IsPath
namespace G.blob_IsDigest
abbrev ps : Mk := sS []
abbrev rs : Mk := sB []
abbrev mr : Mk := n2 (sB (n8 []))
def C (k : Nat) : List (Ent PG R) := [⟨109,H.Trim.h k,H.Trim.ok k⟩]
def fn (k : Nat) (x : (BA × U1)) (S : LL) (K : Kt R (Bool × U1)) : Option R :=
 ifB ((x.1.size : Int) == 16) (H.Trim.fn k (x.1,(bs [48,49,50,51,52,53,54,55,56,57,97,98,99,100,101,102]),()) S fun r1 S => K ((strEq r1.1 (bs [])),()) S) (K (false,()) S)
def en (k : Nat) : Ent PG R := mkFn T_ok Tryz.func83 ps rs (C k) (.seq .auto (.seq .auto (.mask mr .auto))) ⟨tr,tr,tr⟩ (fn k)
end G.blob_IsDigest
namespace G.action_isWord
abbrev ps : Mk := sS []
abbrev rs : Mk := sB []
abbrev e0 : Mk := sS (nM 27 [])
abbrev m0 : Mk := sS (n4 (sI (sI (nM 21 []))))
abbrev mr : Mk := n2 (sB (nM 25 []))
abbrev T0 := BA × Int × Int × U1
def C (k : Nat) : List (Ent PG R) := []
def b0 (k : Nat) (J0 : Kt R (BA × U1)) (Jret : Kt R (Bool × U1)) (rec : Kt R T0) (x : T0) (S : LL) : Option R :=
 ifB (decide (x.2.2.1 < x.2.1)) (idxStr x.1 x.2.2.1 fun c1 => ifB (decide (c1 < 33)) (Jret (false,()) S) (idxStr x.1 x.2.2.1 fun c2 => ifB (decide (c2 > 126)) (Jret (false,()) S) (rec (x.1,x.2.1,(IntKind.wrap .i64 (x.2.2.1 + 1)),()) S))) (J0 (x.1,()) S)
def L0 (k : Nat) : Pc PG R (.loop (su Tryz.f145 37)) := mkLoop T_ok (C k) _ m0 k (.seq .auto (.seq (.cond .auto (.mask e0 .auto)) (.seq (.block (.seq .auto (.seq .auto (.cond (.seq .auto (.mask mr .auto)) .auto)))) .auto))) ⟨tr,⟨tr,tr⟩,⟨tr,tr,⟨tr,tr⟩,tr⟩,tr⟩ (fun K => b0 k (kX K 0 e0) (kR K mr))
def fn (k : Nat) (x : (BA × U1)) (S : LL) (K : Kt R (Bool × U1)) : Option R :=
 rounds (b0 k (fun o3 S => ifB (decide ((o3.1.size : Int) ≥ 1)) (K ((decide ((o3.1.size : Int) ≤ 300)),()) S) (K (false,()) S)) K) k (x.1,(x.1.size : Int),0,()) S
def en (k : Nat) : Ent PG R := mkFn T_ok Tryz.func145 ps rs (C k) (.seq .auto (.seq (.seq .auto (.block (.piece (L0 k).h))) (.seq .auto (.mask mr .auto)))) ⟨tr,⟨tr,(L0 k).ok⟩,tr,tr⟩ (fn k)
end G.action_isWord
namespace G.action_checkCommand_1
abbrev ps : Mk := sS []
abbrev rs : Mk := sB []
abbrev mr : Mk := n2 (sB (n3 []))
def C (k : Nat) : List (Ent PG R) := [action_isWord.en k]
def fn (k : Nat) (x : (BA × U1)) (S : LL) (K : Kt R (Bool × U1)) : Option R :=
 action_isWord.fn k x S fun r1 S => K ((!r1.1),()) S
def en (k : Nat) : Ent PG R := mkFn T_ok Tryz.func144 ps rs (C k) (.seq .auto (.seq .auto (.mask mr .auto))) ⟨tr,tr,tr⟩ (fn k)
end G.action_checkCommand_1
namespace G.slices_IndexFunc_s_string_string_at_action_checkCommand_1
abbrev ps : Mk := sL 1 (sh (.fn 144 []) [])
abbrev rs : Mk := sI []
abbrev e0 : Mk := nM 19 []
abbrev m0 : Mk := sL 1 (sh (.fn 144 []) (n5 (sI (sI (nX [])))))
abbrev mr : Mk := n4 (sI (nM 14 []))
abbrev T0 := LL × (U1) × Int × Int × U1
def C (k : Nat) : List (Ent PG R) := [action_checkCommand_1.en k]
def b0 (k : Nat) (J0 : Kt R (U1)) (Jret : Kt R (Int × U1)) (rec : Kt R T0) (x : T0) (S : LL) : Option R :=
 ifB (decide (x.2.2.2.1 < x.2.2.1)) (idxL x.1 x.2.2.2.1 fun v1 => asStr (leaf v1 0) fun s2 => action_checkCommand_1.fn k (s2,()) S fun r3 S => ifB r3.1 (Jret x.2.2.2 S) (rec (x.1,(()),x.2.2.1,(IntKind.wrap .i64 (x.2.2.2.1 + 1)),()) S)) (J0 (()) S)
def L0 (k : Nat) : Pc PG R (.loop (su Tryz.f67 37)) := mkLoop T_ok (C k) _ m0 k (.seq .auto (.seq (.cond .auto (.mask e0 .auto)) (.seq (.block (.seq .auto (.seq .auto (.cond (.seq .auto (.mask mr .auto)) .auto)))) .auto))) ⟨tr,⟨tr,tr⟩,⟨tr,tr,⟨tr,tr⟩,tr⟩,tr⟩ (fun K => b0 k (kX K 0 e0) (kR K mr))
def fn (k : Nat) (x : (LL × (U1) × U1)) (S : LL) (K : Kt R (Int × U1)) : Option R :=
 rounds (b0 k (fun o4 S => K (-1,()) S) K) k (x.1,(()),(x.1.length : Int),0,()) S
def en (k : Nat) : Ent PG R := mkFn T_ok Tryz.func67 ps rs (C k) (.seq .auto (.seq (.seq .auto (.block (.piece (L0 k).h))) (.seq .auto (.mask mr .auto)))) ⟨tr,⟨tr,(L0 k).ok⟩,tr,tr⟩ (fn k)
end G.slices_IndexFunc_s_string_string_at_action_checkCommand_1
namespace G.slices_ContainsFunc_s_string_string_at_action_checkCommand_1
abbrev ps : Mk := sL 1 (sh (.fn 144 []) [])
abbrev rs : Mk := sB []
abbrev mr : Mk := n4 (sB (n4 []))
def C (k : Nat) : List (Ent PG R) := [slices_IndexFunc_s_string_string_at_action_checkCommand_1.en k]
def fn (k : Nat) (x : (LL × (U1) × U1)) (S : LL) (K : Kt R (Bool × U1)) : Option R :=
 slices_IndexFunc_s_string_string_at_action_checkCommand_1.fn k (x.1,(()),()) S fun r1 S => K ((decide (r1.1 ≥ 0)),()) S
def en (k : Nat) : Ent PG R := mkFn T_ok Tryz.func37 ps rs (C k) (.seq .auto (.seq .auto (.mask mr .auto))) ⟨tr,tr,tr⟩ (fn k)
end G.slices_ContainsFunc_s_string_string_at_action_checkCommand_1
namespace G.action_formOf
abbrev ps : Mk := sS []
abbrev rs : Mk := sS []
abbrev c0 : Mk := n3 (sS (n2 (sB (nM 22 []))))
abbrev c1 : Mk := n3 (sS (n9 (sB (nM 15 []))))
abbrev c2 : Mk := n3 (sS (nM 11 (sB (nM 13 []))))
abbrev c3 : Mk := n3 (sS (nM 13 (sB (nM 11 []))))
abbrev c4 : Mk := n3 (sS (nM 15 (sB (n9 []))))
abbrev c5 : Mk := n3 (sS (nM 17 (sB (n7 []))))
abbrev c6 : Mk := n3 (sS (nM 19 (sB (n5 []))))
abbrev c7 : Mk := n3 (sS (nM 21 (sB (n3 []))))
abbrev z0 : Mk := nM 29 []
abbrev mr : Mk := n2 (sS (nM 26 []))
abbrev T1 := BA × U1
abbrev T0 := BA × Bool × U1
def C (k : Nat) : List (Ent PG R) := []
def q7 (k : Nat) (Jnrm : Kt R (U1)) (Jret : Kt R T1) (x : T0) (S : LL) : Option R :=
 ifB x.2.1 (Jret ((bs [112,112]),()) S) (ifB (strEq x.1 (bs [102,97,105,108])) (Jret ((bs [110]),()) S) (Jnrm (()) S))
def Q7 (k : Nat) : Pc PG R (su Tryz.f146 4194293) := mkEnd T_ok (C k) _ c7 z0 (.cond (.seq .auto (.mask mr .auto)) (.seq .auto (.cond (.seq .auto (.mask mr .auto)) .auto))) ⟨⟨tr,tr⟩,tr,⟨tr,tr⟩,tr⟩ (fun x S K => q7 k (kN K z0) (kR K mr) x S)
def q6 (k : Nat) (Jnrm : Kt R (U1)) (Jret : Kt R T1) (x : T0) (S : LL) : Option R :=
 ifB x.2.1 (Jret ((bs [112]),()) S) (q7 k (fun o1 S => Jnrm (()) S) Jret (x.1,(strEq x.1 (bs [115,97,109,101])),()) S)
def Q6 (k : Nat) : Pc PG R (su Tryz.f146 1048565) := mkEnd T_ok (C k) _ c6 z0 (.cond (.seq .auto (.mask mr .auto)) (.seq .auto (.piece (Q7 k).h))) ⟨⟨tr,tr⟩,tr,(Q7 k).ok⟩ (fun x S K => q6 k (kN K z0) (kR K mr) x S)
def q5 (k : Nat) (Jnrm : Kt R (U1)) (Jret : Kt R T1) (x : T0) (S : LL) : Option R :=
 ifB x.2.1 (Jret ((bs [119,43]),()) S) (q6 k (fun o3 S => Jnrm (()) S) Jret (x.1,(strEq x.1 (bs [110,101,101,100])),()) S)
def Q5 (k : Nat) : Pc PG R (su Tryz.f146 262133) := mkEnd T_ok (C k) _ c5 z0 (.cond (.seq .auto (.mask mr .auto)) (.seq .auto (.piece (Q6 k).h))) ⟨⟨tr,tr⟩,tr,(Q6 k).ok⟩ (fun x S K => q5 k (kN K z0) (kR K mr) x S)
def q4 (k : Nat) (Jnrm : Kt R (U1)) (Jret : Kt R T1) (x : T0) (S : LL) : Option R :=
 ifB x.2.1 (Jret ((bs [112,119]),()) S) (q5 k (fun o5 S => Jnrm (()) S) Jret (x.1,(strEq x.1 (bs [116,101,108,108])),()) S)
def Q4 (k : Nat) : Pc PG R (su Tryz.f146 65525) := mkEnd T_ok (C k) _ c4 z0 (.cond (.seq .auto (.mask mr .auto)) (.seq .auto (.piece (Q5 k).h))) ⟨⟨tr,tr⟩,tr,(Q5 k).ok⟩ (fun x S K => q4 k (kN K z0) (kR K mr) x S)
def q3 (k : Nat) (Jnrm : Kt R (U1)) (Jret : Kt R T1) (x : T0) (S : LL) : Option R :=
 ifB x.2.1 (Jret ((bs [112,112,112,43]),()) S) (q4 k (fun o7 S => Jnrm (()) S) Jret (x.1,(strEq x.1 (bs [118,97,114])),()) S)
def Q3 (k : Nat) : Pc PG R (su Tryz.f146 16373) := mkEnd T_ok (C k) _ c3 z0 (.cond (.seq .auto (.mask mr .auto)) (.seq .auto (.piece (Q4 k).h))) ⟨⟨tr,tr⟩,tr,(Q4 k).ok⟩ (fun x S K => q3 k (kN K z0) (kR K mr) x S)
def q2 (k : Nat) (Jnrm : Kt R (U1)) (Jret : Kt R T1) (x : T0) (S : LL) : Option R :=
 ifB x.2.1 (Jret ((bs [112,119,119,112]),()) S) (q3 k (fun o9 S => Jnrm (()) S) Jret (x.1,(strEq x.1 (bs [112,105,99,107])),()) S)
def Q2 (k : Nat) : Pc PG R (su Tryz.f146 4085) := mkEnd T_ok (C k) _ c2 z0 (.cond (.seq .auto (.mask mr .auto)) (.seq .auto (.piece (Q3 k).h))) ⟨⟨tr,tr⟩,tr,(Q3 k).ok⟩ (fun x S K => q2 k (kN K z0) (kR K mr) x S)
def q1 (k : Nat) (Jnrm : Kt R (U1)) (Jret : Kt R T1) (x : T0) (S : LL) : Option R :=
 ifB x.2.1 (Jret ((bs [112,110,112]),()) S) (q2 k (fun o11 S => Jnrm (()) S) Jret (x.1,(strEq x.1 (bs [99,104,97,110,103,101])),()) S)
def Q1 (k : Nat) : Pc PG R (su Tryz.f146 1013) := mkEnd T_ok (C k) _ c1 z0 (.cond (.seq .auto (.mask mr .auto)) (.seq .auto (.piece (Q2 k).h))) ⟨⟨tr,tr⟩,tr,(Q2 k).ok⟩ (fun x S K => q1 k (kN K z0) (kR K mr) x S)
def q0 (k : Nat) (Jnrm : Kt R (U1)) (Jret : Kt R T1) (x : T0) (S : LL) : Option R :=
 ifB x.2.1 (Jret ((bs [112,112]),()) S) (q1 k (fun o13 S => Jnrm (()) S) Jret (x.1,(strEq x.1 (bs [102,105,114,115,116])),()) S)
def Q0 (k : Nat) : Pc PG R (su Tryz.f146 245) := mkEnd T_ok (C k) _ c0 z0 (.cond (.seq .auto (.mask mr .auto)) (.seq .auto (.piece (Q1 k).h))) ⟨⟨tr,tr⟩,tr,(Q1 k).ok⟩ (fun x S K => q0 k (kN K z0) (kR K mr) x S)
def fn (k : Nat) (x : T1) (S : LL) (K : Kt R T1) : Option R :=
 ifB (strEq x.1 (bs [106,111,105,110])) (K ((bs [112,112,43]),()) S) (ifB (strEq x.1 (bs [115,111,114,116])) (q0 k (fun o15 S => K ((bs []),()) S) K (x.1,(strEq x.1 (bs [115,111,114,116])),()) S) (ifB (strEq x.1 (bs [99,111,117,110,116])) (q0 k (fun o17 S => K ((bs []),()) S) K (x.1,(strEq x.1 (bs [99,111,117,110,116])),()) S) (ifB (strEq x.1 (bs [101,120,112,97,110,100])) (q0 k (fun o19 S => K ((bs []),()) S) K (x.1,(strEq x.1 (bs [101,120,112,97,110,100])),()) S) (ifB (strEq x.1 (bs [109,97,107,101])) (q0 k (fun o21 S => K ((bs []),()) S) K (x.1,(strEq x.1 (bs [109,97,107,101])),()) S) (ifB (strEq x.1 (bs [100,105,103,101,115,116])) (q0 k (fun o23 S => K ((bs []),()) S) K (x.1,(strEq x.1 (bs [100,105,103,101,115,116])),()) S) (q0 k (fun o25 S => K ((bs []),()) S) K (x.1,(strEq x.1 (bs [108,105,115,116])),()) S))))))
def en (k : Nat) : Ent PG R := mkFn T_ok Tryz.func146 ps rs (C k) (.seq .auto (.seq (.seq .auto (.block (.seq .auto (.cond (.seq .auto (.mask mr .auto)) (.seq (.seq .auto (.cond .auto (.seq .auto (.cond .auto (.seq .auto (.cond .auto (.seq .auto (.cond .auto (.seq .auto (.cond .auto .auto)))))))))) (.piece (Q0 k).h)))))) (.seq .auto (.mask mr .auto)))) ⟨tr,⟨tr,tr,⟨tr,tr⟩,⟨tr,tr,tr,tr,tr,tr,tr,tr,tr,tr,tr⟩,(Q0 k).ok⟩,tr,tr⟩ (fn k)
end G.action_formOf
namespace G.internal_stringslite_HasSuffix
abbrev ps : Mk := sS (sS [])
abbrev rs : Mk := sB []
abbrev mr : Mk := n4 (sB (nM 16 []))
def C (k : Nat) : List (Ent PG R) := []
def fn (k : Nat) (x : (BA × BA × U1)) (S : LL) (K : Kt R (Bool × U1)) : Option R :=
 ifB (decide ((x.1.size : Int) ≥ (x.2.1.size : Int))) (slStr x.1 (IntKind.wrap .i64 ((x.1.size : Int) - (x.2.1.size : Int))) (x.1.size : Int) fun s1 => K ((strEq s1 x.2.1),()) S) (K (false,()) S)
def en (k : Nat) : Ent PG R := mkFn T_ok Tryz.func169 ps rs (C k) (.seq .auto (.seq .auto (.mask mr .auto))) ⟨tr,tr,tr⟩ (fn k)
end G.internal_stringslite_HasSuffix
namespace G.internal_stringslite_CutSuffix
abbrev ps : Mk := sS (sS [])
abbrev rs : Mk := sS (sB [])
abbrev mr : Mk := n4 (sS (sB (nM 12 [])))
def C (k : Nat) : List (Ent PG R) := [internal_stringslite_HasSuffix.en k]
def fn (k : Nat) (x : (BA × BA × U1)) (S : LL) (K : Kt R (BA × Bool × U1)) : Option R :=
 internal_stringslite_HasSuffix.fn k x S fun r1 S => ifB (!r1.1) (K (x.1,false,()) S) (slStr x.1 (0 : Int) (IntKind.wrap .i64 ((x.1.size : Int) - (x.2.1.size : Int))) fun s2 => K (s2,true,()) S)
def en (k : Nat) : Ent PG R := mkFn T_ok Tryz.func203 ps rs (C k) (.seq .auto (.seq (.seq .auto (.cond (.seq .auto (.mask mr .auto)) .auto)) (.seq .auto (.mask mr .auto)))) ⟨tr,⟨tr,⟨tr,tr⟩,tr⟩,tr,tr⟩ (fn k)
end G.internal_stringslite_CutSuffix
namespace G.strings_CutSuffix
abbrev ps : Mk := sS (sS [])
abbrev rs : Mk := sS (sB [])
abbrev mr : Mk := n4 (sS (sB (n5 [])))
def C (k : Nat) : List (Ent PG R) := [internal_stringslite_CutSuffix.en k]
def fn (k : Nat) (x : (BA × BA × U1)) (S : LL) (K : Kt R (BA × Bool × U1)) : Option R :=
 internal_stringslite_CutSuffix.fn k x S K
def en (k : Nat) : Ent PG R := mkFn T_ok Tryz.func178 ps rs (C k) (.seq .auto (.seq .auto (.mask mr .auto))) ⟨tr,tr,tr⟩ (fn k)
end G.strings_CutSuffix
namespace G.action_isNumber
abbrev ps : Mk := sS (sI [])
abbrev rs : Mk := sB []
abbrev mr : Mk := n4 (sB (nM 23 []))
def C (k : Nat) : List (Ent PG R) := [⟨109,H.Trim.h k,H.Trim.ok k⟩]
def fn (k : Nat) (x : (BA × Int × U1)) (S : LL) (K : Kt R (Bool × U1)) : Option R :=
 ifB (decide ((x.1.size : Int) ≥ 1)) (ifB (decide ((x.1.size : Int) ≤ x.2.1)) (H.Trim.fn k (x.1,(bs [48,49,50,51,52,53,54,55,56,57]),()) S fun r1 S => ifB (strEq r1.1 (bs [])) (idxStr x.1 (0 : Int) fun c2 => ifB (c2 != 48) (K (true,()) S) (K ((strEq x.1 (bs [48])),()) S)) (K (false,()) S)) (K (false,()) S)) (K (false,()) S)
def en (k : Nat) : Ent PG R := mkFn T_ok Tryz.func190 ps rs (C k) (.seq .auto (.seq .auto (.mask mr .auto))) ⟨tr,tr,tr⟩ (fn k)
end G.action_isNumber
namespace G.action_hasForm
abbrev ps : Mk := sL 1 (sS [])
abbrev rs : Mk := sB []
abbrev c0 : Mk := n1 (sS (nM 27 (sL 1 (sI (sI (nM 22 []))))))
abbrev c1 : Mk := sL 1 (sS (nM 52 []))
abbrev c2 : Mk := n1 (sS (nM 27 (sL 1 (sI (sI (sB (nM 21 [])))))))
abbrev c4 : Mk := n1 (sS (n4 (sI (sS (nM 21 (sL 1 (sI (sI (nM 22 [])))))))))
abbrev c5 : Mk := n1 (sS (n5 (sS (nM 21 (sL 1 (sI (sI (nX (sh (.lf (.int .u8)) (nM 11 []))))))))))
abbrev c6 : Mk := n1 (sS (n5 (sS (nM 21 (sL 1 (sI (sI (nX (sh (.lf (.int .u8)) (sB (nX [])))))))))))
abbrev c7 : Mk := n1 (sS (n5 (sS (nM 21 (sL 1 (sI (sI (nM 16 (sB (n5 []))))))))))
abbrev z0 : Mk := nM 54 []
abbrev mr : Mk := n4 (sB (nM 49 []))
abbrev T1 := Bool × U1
abbrev T0 := BA × LL × Int × Int × U1
def C (k : Nat) : List (Ent PG R) := [blob_IsPath.en k,strings_CutSuffix.en k,action_isNumber.en k]
def q7 (k : Nat) (Jnrm : Kt R T0) (Jret : Kt R T1) (x : (BA × BA × LL × Int × Int × Bool × U1)) (S : LL) : Option R :=
 ifB x.2.2.2.2.2.1 (action_isNumber.fn k (x.2.1,6,()) S fun r6 S => ifB (!r6.1) (Jret (false,()) S) (Jnrm (x.1,x.2.2.1,x.2.2.2.1,x.2.2.2.2.1,()) S)) (Jnrm (x.1,x.2.2.1,x.2.2.2.1,x.2.2.2.2.1,()) S)
def Q7 (k : Nat) : Pc PG R (su Tryz.f147 252311) := mkEnd T_ok (C k) _ c7 c0 (.cond (.seq .auto (.cond (.seq .auto (.mask mr .auto)) .auto)) .auto) ⟨⟨tr,⟨tr,tr⟩,tr⟩,tr⟩ (fun x S K => q7 k (kN K c0) (kR K mr) x S)
def q6 (k : Nat) (Jnrm : Kt R T0) (Jret : Kt R T1) (x : (BA × BA × LL × Int × Int × Int × Bool × U1)) (S : LL) : Option R :=
 ifB x.2.2.2.2.2.2.1 (blob_IsPath.fn k (x.2.1,()) S fun r5 S => ifB (!r5.1) (Jret (false,()) S) (Jnrm (x.1,x.2.2.1,x.2.2.2.1,x.2.2.2.2.1,()) S)) (q7 k Jnrm Jret (x.1,x.2.1,x.2.2.1,x.2.2.2.1,x.2.2.2.2.1,(x.2.2.2.2.2.1 == 110),()) S)
def Q6 (k : Nat) : Pc PG R (su Tryz.f147 55703) := mkEnd T_ok (C k) _ c6 c0 (.cond (.seq .auto (.cond (.seq .auto (.mask mr .auto)) .auto)) (.seq .auto (.piece (Q7 k).h))) ⟨⟨tr,⟨tr,tr⟩,tr⟩,tr,(Q7 k).ok⟩ (fun x S K => q6 k (kN K c0) (kR K mr) x S)
def q5 (k : Nat) (Jnrm : Kt R T0) (Jret : Kt R T1) (x : (BA × BA × LL × Int × Int × Int × U1)) (S : LL) : Option R :=
 q6 k Jnrm Jret (x.1,x.2.1,x.2.2.1,x.2.2.2.1,x.2.2.2.2.1,x.2.2.2.2.2.1,(x.2.2.2.2.2.1 == 112),()) S
def Q5 (k : Nat) : Pc PG R (su Tryz.f147 14743) := mkEnd T_ok (C k) _ c5 c0 (.block (.seq .auto (.piece (Q6 k).h))) ⟨tr,(Q6 k).ok⟩ (fun x S K => q5 k (kN K c0) (kR K mr) x S)
def q4 (k : Nat) (Jnrm : Kt R T0) (Jret : Kt R T1) (x : (BA × Int × BA × LL × Int × Int × U1)) (S : LL) : Option R :=
 idxStr x.1 (minI x.2.1 (IntKind.wrap .i64 ((x.1.size : Int) - 1))) fun c4 => q5 k Jnrm Jret (x.1,x.2.2.1,x.2.2.2.1,x.2.2.2.2.1,x.2.2.2.2.2.1,c4,()) S
def Q4 (k : Nat) : Pc PG R (su Tryz.f147 6551) := mkEnd T_ok (C k) _ c4 c0 (.seq .auto (.piece (Q5 k).h)) ⟨tr,(Q5 k).ok⟩ (fun x S K => q4 k (kN K c0) (kR K mr) x S)
def q3 (k : Nat) (Jnrm : Kt R T0) (Jret : Kt R T1) (x : T0) (S : LL) : Option R :=
 idxL x.2.1 x.2.2.2.1 fun v2 => asStr (leaf v2 0) fun s3 => q4 k (fun o13 S => Jnrm (o13.1,o13.2.1,o13.2.2.1,(IntKind.wrap .i64 (o13.2.2.2.1 + 1)),()) S) Jret (x.1,x.2.2.2.1,s3,x.2) S
def Q3 (k : Nat) : Pc PG R (su Tryz.f147 919) := mkEnd T_ok (C k) _ c0 c0 (.seq (.block (.seq .auto (.piece (Q4 k).h))) .auto) ⟨⟨tr,(Q4 k).ok⟩,tr⟩ (fun x S K => q3 k (kN K c0) (kR K mr) x S)
def q2 (k : Nat) (Jnrm : Kt R T0) (J0 : Kt R (U1)) (Jret : Kt R T1) (x : (BA × LL × Int × Int × Bool × U1)) (S : LL) : Option R :=
 ifB x.2.2.2.2.1 (q3 k Jnrm Jret (x.1,x.2.1,x.2.2.1,x.2.2.2.1,()) S) (J0 (()) S)
def Q2 (k : Nat) : Pc PG R (su Tryz.f147 407) := mkEnd T_ok (C k) _ c2 c0 (.seq (.cond .auto (.mask z0 .auto)) (.piece (Q3 k).h)) ⟨⟨tr,tr⟩,(Q3 k).ok⟩ (fun x S K => q2 k (kN K c0) (kX K 0 z0) (kR K mr) x S)
def b0 (k : Nat) (J0 : Kt R (U1)) (Jret : Kt R T1) (rec : Kt R T0) (x : T0) (S : LL) : Option R :=
 q2 k rec (fun o18 S => J0 (()) S) Jret (x.1,x.2.1,x.2.2.1,x.2.2.2.1,(decide (x.2.2.2.1 < x.2.2.1)),()) S
def L0 (k : Nat) : Pc PG R (.loop (su Tryz.f147 151)) := mkLoop T_ok (C k) _ c0 k (.seq .auto (.piece (Q2 k).h)) ⟨tr,(Q2 k).ok⟩ (fun K => b0 k (kX K 0 z0) (kR K mr))
def q0 (k : Nat) (Jnrm : Kt R (U1)) (Jret : Kt R T1) (x : T0) (S : LL) : Option R :=
 rounds (b0 k (fun o20 S => Jnrm (()) S) Jret) k x S
def Q0 (k : Nat) : Pc PG R (su Tryz.f147 55) := mkEnd T_ok (C k) _ c0 z0 (.block (.piece (L0 k).h)) (L0 k).ok (fun x S K => q0 k (kN K z0) (kR K mr) x S)
def q1 (k : Nat) (Jret : Kt R T1) (x : (LL × BA × U1)) (S : LL) : Option R :=
 q0 k (fun o22 S => Jret (true,()) S) Jret (x.2.1,x.1,(x.1.length : Int),0,()) S
def Q1 (k : Nat) : Pc PG R (su Tryz.f147 15) := mkCut T_ok (C k) _ c1 (.seq (.seq .auto (.piece (Q0 k).h)) (.seq .auto (.mask mr .auto))) ⟨⟨tr,(Q0 k).ok⟩,tr,tr⟩ (fun x S K => q1 k (kR K mr) x S)
def fn (k : Nat) (x : (LL × BA × U1)) (S : LL) (K : Kt R T1) : Option R :=
 strings_CutSuffix.fn k (x.2.1,(bs [43]),()) S fun r1 S => ifB (decide ((x.1.length : Int) < (r1.1.size : Int))) (K (false,()) S) (ifB (decide ((x.1.length : Int) > (r1.1.size : Int))) (ifB (!r1.2.1) (K (false,()) S) (q1 k K (x.1,r1.1,()) S)) (q1 k K (x.1,r1.1,()) S))
def en (k : Nat) : Ent PG R := mkFn T_ok Tryz.func147 ps rs (C k) (.seq .auto (.seq (.own [(2,1)]) (.seq (.seq .auto (.cond (.seq .auto (.mask mr .auto)) .auto)) (.piece (Q1 k).h)))) ⟨tr,tr,⟨tr,⟨tr,tr⟩,tr⟩,(Q1 k).ok⟩ (fn k)
end G.action_hasForm
namespace G.action_checkCommand
abbrev ps : Mk := sL 1 []
abbrev rs : Mk := sI []
abbrev mr : Mk := n2 (sI (nM 32 []))
def C (k : Nat) : List (Ent PG R) := [slices_ContainsFunc_s_string_string_at_action_checkCommand_1.en k,action_formOf.en k,action_hasForm.en k]
def fn (k : Nat) (x : (LL × U1)) (S : LL) (K : Kt R (Int × U1)) : Option R :=
 ifB ((x.1.length : Int) == 0) (K (9,()) S) (ifB (decide ((x.1.length : Int) > 50)) (K (2,()) S) (slices_ContainsFunc_s_string_string_at_action_checkCommand_1.fn k (x.1,(()),()) S fun r1 S => ifB r1.1 (K (3,()) S) (idxL x.1 (0 : Int) fun v2 => asStr (leaf v2 0) fun s3 => action_formOf.fn k (s3,()) S fun r4 S => ifB (strEq r4.1 (bs [])) (K (4,()) S) (slL x.1 (1 : Int) (x.1.length : Int) fun l5 => action_hasForm.fn k (l5,r4) S fun r6 S => ifB (!r6.1) (K (3,()) S) (idxL x.1 (0 : Int) fun v7 => asStr (leaf v7 0) fun s8 => ifB (strEq s8 (bs [102,97,105,108])) (idxL x.1 (1 : Int) fun v9 => asStr (leaf v9 0) fun s10 => ifB (strEq s10 (bs [48])) (K (3,()) S) (K (0,()) S)) (K (0,()) S))))))
def en (k : Nat) : Ent PG R := mkFn T_ok Tryz.func104 ps rs (C k) (.seq .auto (.seq (.seq .auto (.cond (.seq .auto (.mask mr .auto)) .auto)) (.seq (.seq .auto (.cond (.seq .auto (.mask mr .auto)) .auto)) (.seq (.seq .auto (.cond (.seq .auto (.mask mr .auto)) .auto)) (.seq .auto (.seq (.seq .auto (.cond (.seq .auto (.mask mr .auto)) .auto)) (.seq (.seq .auto (.cond (.seq .auto (.mask mr .auto)) .auto)) (.seq .auto (.mask mr .auto))))))))) ⟨tr,⟨tr,⟨tr,tr⟩,tr⟩,⟨tr,⟨tr,tr⟩,tr⟩,⟨tr,⟨tr,tr⟩,tr⟩,tr,⟨tr,⟨tr,tr⟩,tr⟩,⟨tr,⟨tr,tr⟩,tr⟩,tr,tr⟩ (fn k)
end G.action_checkCommand
namespace G.script_isSmall
abbrev ps : Mk := sh (.lf (.int .u8)) []
abbrev rs : Mk := sB []
abbrev mr : Mk := n2 (sB (n6 []))
def C (k : Nat) : List (Ent PG R) := []
def fn (k : Nat) (x : (Int × U1)) (S : LL) (K : Kt R (Bool × U1)) : Option R :=
 ifB (decide (x.1 ≥ 97)) (K ((decide (x.1 ≤ 122)),()) S) (K (false,()) S)
def en (k : Nat) : Ent PG R := mkFn T_ok Tryz.func191 ps rs (C k) (.seq .auto (.seq .auto (.mask mr .auto))) ⟨tr,tr,tr⟩ (fn k)
end G.script_isSmall
namespace G.script_isDigit
abbrev ps : Mk := sh (.lf (.int .u8)) []
abbrev rs : Mk := sB []
abbrev mr : Mk := n2 (sB (n6 []))
def C (k : Nat) : List (Ent PG R) := []
def fn (k : Nat) (x : (Int × U1)) (S : LL) (K : Kt R (Bool × U1)) : Option R :=
 ifB (decide (x.1 ≥ 48)) (K ((decide (x.1 ≤ 57)),()) S) (K (false,()) S)
def en (k : Nat) : Ent PG R := mkFn T_ok Tryz.func192 ps rs (C k) (.seq .auto (.seq .auto (.mask mr .auto))) ⟨tr,tr,tr⟩ (fn k)
end G.script_isDigit
namespace G.script_words
abbrev ps : Mk := []
abbrev rs : Mk := sO 9 1 []
abbrev mr : Mk := sO 9 1 (n1 [])
def C (k : Nat) : List (Ent PG R) := []
def fn (k : Nat) (x : (U1)) (S : LL) (K : Kt R (LL × U1)) : Option R :=
 K ([(.str (bs [109,97,99,114,111])),(.str (bs [102,111,114])),(.str (bs [105,110])),(.str (bs [105,102])),(.str (bs [101,108,115,101])),(.str (bs [117,115,101])),(.str (bs [102,105,108,101,115])),(.str (bs [99,104,111,111,115,101]))],()) S
def en (k : Nat) : Ent PG R := mkFn T_ok Tryz.func193 ps rs (C k) (.seq .auto (.seq .auto (.mask mr .auto))) ⟨tr,tr,tr⟩ (fn k)
end G.script_words
namespace G.slices_Index_s_string_string
abbrev ps : Mk := sL 1 (sS [])
abbrev rs : Mk := sI []
abbrev e0 : Mk := nM 19 []
abbrev m0 : Mk := sL 1 (sS (n5 (sI (sI (nX [])))))
abbrev mr : Mk := n4 (sI (nM 14 []))
abbrev T0 := LL × BA × Int × Int × U1
def C (k : Nat) : List (Ent PG R) := []
def b0 (k : Nat) (J0 : Kt R (U1)) (Jret : Kt R (Int × U1)) (rec : Kt R T0) (x : T0) (S : LL) : Option R :=
 ifB (decide (x.2.2.2.1 < x.2.2.1)) (idxL x.1 x.2.2.2.1 fun v1 => asStr (leaf v1 0) fun s2 => ifB (strEq x.2.1 s2) (Jret x.2.2.2 S) (rec (x.1,x.2.1,x.2.2.1,(IntKind.wrap .i64 (x.2.2.2.1 + 1)),()) S)) (J0 (()) S)
def L0 (k : Nat) : Pc PG R (.loop (su Tryz.f27 37)) := mkLoop T_ok (C k) _ m0 k (.seq .auto (.seq (.cond .auto (.mask e0 .auto)) (.seq (.block (.seq .auto (.seq .auto (.cond (.seq .auto (.mask mr .auto)) .auto)))) .auto))) ⟨tr,⟨tr,tr⟩,⟨tr,tr,⟨tr,tr⟩,tr⟩,tr⟩ (fun K => b0 k (kX K 0 e0) (kR K mr))
def fn (k : Nat) (x : (LL × BA × U1)) (S : LL) (K : Kt R (Int × U1)) : Option R :=
 rounds (b0 k (fun o3 S => K (-1,()) S) K) k (x.1,x.2.1,(x.1.length : Int),0,()) S
def en (k : Nat) : Ent PG R := mkFn T_ok Tryz.func27 ps rs (C k) (.seq .auto (.seq (.seq .auto (.block (.piece (L0 k).h))) (.seq .auto (.mask mr .auto)))) ⟨tr,⟨tr,(L0 k).ok⟩,tr,tr⟩ (fn k)
end G.slices_Index_s_string_string
namespace G.slices_Contains_s_string_string
abbrev ps : Mk := sL 1 (sS [])
abbrev rs : Mk := sB []
abbrev mr : Mk := n4 (sB (n4 []))
def C (k : Nat) : List (Ent PG R) := [slices_Index_s_string_string.en k]
def fn (k : Nat) (x : (LL × BA × U1)) (S : LL) (K : Kt R (Bool × U1)) : Option R :=
 slices_Index_s_string_string.fn k x S fun r1 S => K ((decide (r1.1 ≥ 0)),()) S
def en (k : Nat) : Ent PG R := mkFn T_ok Tryz.func10 ps rs (C k) (.seq .auto (.seq .auto (.mask mr .auto))) ⟨tr,tr,tr⟩ (fn k)
end G.slices_Contains_s_string_string
namespace G.script_IsName
abbrev ps : Mk := sS []
abbrev rs : Mk := sB []
abbrev e0 : Mk := sS (nM 45 [])
abbrev m0 : Mk := sS (nM 18 (sI (sI (nM 25 []))))
abbrev mr : Mk := n2 (sB (nM 43 []))
abbrev T0 := BA × Int × Int × U1
def C (k : Nat) : List (Ent PG R) := [slices_Contains_s_string_string.en k,script_isSmall.en k,script_isDigit.en k,script_words.en k]
def b0 (k : Nat) (J0 : Kt R (BA × U1)) (Jret : Kt R (Bool × U1)) (rec : Kt R T0) (x : T0) (S : LL) : Option R :=
 ifB (decide (x.2.2.1 < x.2.1)) (idxStr x.1 x.2.2.1 fun c3 => script_isSmall.fn k (c3,()) S fun r4 S => ifB (!r4.1) (idxStr x.1 x.2.2.1 fun c5 => script_isDigit.fn k (c5,()) S fun r6 S => ifB (!r6.1) (idxStr x.1 x.2.2.1 fun c7 => ifB (c7 != 95) (Jret (false,()) S) (rec (x.1,x.2.1,(IntKind.wrap .i64 (x.2.2.1 + 1)),()) S)) (rec (x.1,x.2.1,(IntKind.wrap .i64 (x.2.2.1 + 1)),()) S)) (rec (x.1,x.2.1,(IntKind.wrap .i64 (x.2.2.1 + 1)),()) S)) (J0 (x.1,()) S)
def L0 (k : Nat) : Pc PG R (.loop (su Tryz.f148 75)) := mkLoop T_ok (C k) _ m0 k (.seq .auto (.seq (.cond .auto (.mask e0 .auto)) (.seq (.block (.seq .auto (.seq .auto (.cond (.seq .auto (.mask mr .auto)) .auto)))) .auto))) ⟨tr,⟨tr,tr⟩,⟨tr,tr,⟨tr,tr⟩,tr⟩,tr⟩ (fun K => b0 k (kX K 0 e0) (kR K mr))
def fn (k : Nat) (x : (BA × U1)) (S : LL) (K : Kt R (Bool × U1)) : Option R :=
 ifB (decide ((x.1.size : Int) < 1)) (K (false,()) S) (ifB (decide ((x.1.size : Int) > 40)) (K (false,()) S) (idxStr x.1 (0 : Int) fun c1 => script_isSmall.fn k (c1,()) S fun r2 S => ifB (!r2.1) (K (false,()) S) (rounds (b0 k (fun o8 S => script_words.fn k (()) S fun r9 S => slices_Contains_s_string_string.fn k (r9.1,o8) S fun r10 S => K ((!r10.1),()) S) K) k (x.1,(x.1.size : Int),0,()) S)))
def en (k : Nat) : Ent PG R := mkFn T_ok Tryz.func148 ps rs (C k) (.seq .auto (.seq (.seq .auto (.cond (.seq .auto (.mask mr .auto)) .auto)) (.seq (.seq .auto (.block (.piece (L0 k).h))) (.seq .auto (.mask mr .auto))))) ⟨tr,⟨tr,⟨tr,tr⟩,tr⟩,⟨tr,(L0 k).ok⟩,tr,tr⟩ (fn k)
end G.script_IsName
namespace G.action_checkVars_1
abbrev ps : Mk := sh (.lf (.int .i32)) []
abbrev rs : Mk := sB []
abbrev mr : Mk := n2 (sB (n6 []))
def C (k : Nat) : List (Ent PG R) := []
def fn (k : Nat) (x : (Int × U1)) (S : LL) (K : Kt R (Bool × U1)) : Option R :=
 ifB (decide (x.1 < 32)) (K (true,()) S) (K ((decide (x.1 > 126)),()) S)
def en (k : Nat) : Ent PG R := mkFn T_ok Tryz.func149 ps rs (C k) (.seq .auto (.seq .auto (.mask mr .auto))) ⟨tr,tr,tr⟩ (fn k)
end G.action_checkVars_1
def H.indexFunc_at_action_checkVars_1.fn (k : Nat) (x : ByteArray × Unit × Bool × Unit) (S : List LV) (K : Int × Unit → List LV → Option R) : Option R := H.indexFunc.fn (G.action_checkVars_1.en k).h 149 x S K
def H.indexFunc_at_action_checkVars_1.h (k : Nat) : Hd R := hT (H.indexFunc.ps 149) fun x S K => H.indexFunc_at_action_checkVars_1.fn k x S fun r S => K (resE H.indexFunc.rs r) S
theorem H.indexFunc_at_action_checkVars_1.ok (k : Nat) : HSound Tryz.prog 201 (H.indexFunc_at_action_checkVars_1.h (R := R) k) := H.indexFunc.ok (G.action_checkVars_1.en k).ok (enters_ok Tryz.func149 (by kernel_rfl) (by kernel_rfl))
namespace G.strings_IndexFunc_at_action_checkVars_1
abbrev ps : Mk := sS (sh (.fn 149 []) [])
abbrev rs : Mk := sI []
abbrev mr : Mk := n4 (sI (n3 []))
def C (k : Nat) : List (Ent PG R) := [⟨201,H.indexFunc_at_action_checkVars_1.h k,H.indexFunc_at_action_checkVars_1.ok k⟩]
def fn (k : Nat) (x : (BA × (U1) × U1)) (S : LL) (K : Kt R (Int × U1)) : Option R :=
 H.indexFunc_at_action_checkVars_1.fn k (x.1,(()),true,()) S K
def en (k : Nat) : Ent PG R := mkFn T_ok Tryz.func168 ps rs (C k) (.seq .auto (.seq .auto (.mask mr .auto))) ⟨tr,tr,tr⟩ (fn k)
end G.strings_IndexFunc_at_action_checkVars_1
namespace G.strings_ContainsFunc_at_action_checkVars_1
abbrev ps : Mk := sS (sh (.fn 149 []) [])
abbrev rs : Mk := sB []
abbrev mr : Mk := n4 (sB (n4 []))
def C (k : Nat) : List (Ent PG R) := [strings_IndexFunc_at_action_checkVars_1.en k]
def fn (k : Nat) (x : (BA × (U1) × U1)) (S : LL) (K : Kt R (Bool × U1)) : Option R :=
 strings_IndexFunc_at_action_checkVars_1.fn k (x.1,(()),()) S fun r1 S => K ((decide (r1.1 ≥ 0)),()) S
def en (k : Nat) : Ent PG R := mkFn T_ok Tryz.func110 ps rs (C k) (.seq .auto (.seq .auto (.mask mr .auto))) ⟨tr,tr,tr⟩ (fn k)
end G.strings_ContainsFunc_at_action_checkVars_1
namespace G.action_checkVars
abbrev ps : Mk := sL 2 []
abbrev rs : Mk := sI []
abbrev c0 : Mk := sL 2 (n2 (sI (sX [.str,.str] (n3 (sL 2 (sI (sI (n9 (sB (nM 24 []))))))))))
abbrev z0 : Mk := sL 2 (n7 (sL 2 (sI (sI (nM 34 [])))))
abbrev e0 : Mk := nM 45 []
abbrev mr : Mk := n2 (sI (nM 42 []))
abbrev T0 := LL × LL × Int × Int × U1
def C (k : Nat) : List (Ent PG R) := [strings_ContainsFunc_at_action_checkVars_1.en k,script_IsName.en k]
def q0 (k : Nat) (Jnrm : Kt R T0) (Jret : Kt R (Int × U1)) (x : (LL × Int × (BA × BA × U1) × LL × Int × Int × Bool × U1)) (S : LL) : Option R :=
 ifB x.2.2.2.2.2.2.1 (Jret ((3 : Int),()) S) (ifB (decide (x.2.1 > 0)) (idxL x.1 (IntKind.wrap .i64 (x.2.1 - 1)) fun v6 => asStr (leaf v6 0) fun s7 => ifB (strLt x.2.2.1.1 s7 || strEq x.2.2.1.1 s7) (Jret ((8 : Int),()) S) (Jnrm (x.1,x.2.2.2.1,x.2.2.2.2.1,x.2.2.2.2.2.1,()) S)) (Jnrm (x.1,x.2.2.2.1,x.2.2.2.2.1,x.2.2.2.2.2.1,()) S))
def Q0 (k : Nat) : Pc PG R (su Tryz.f105 62667) := mkEnd T_ok (C k) _ c0 z0 (.cond (.seq .auto (.mask mr .auto)) (.seq (.drawn [] [0,1,2,3,4,5,6,7,8,9,10,11,12,13]) (.cond (.seq .auto (.mask mr .auto)) .auto))) ⟨⟨tr,tr⟩,(drawn_an (by kernel_rfl)),⟨tr,tr⟩,tr⟩ (fun x S K => q0 k (kN K z0) (kR K mr) x S)
def b0 (k : Nat) (J0 : Kt R (U1)) (Jret : Kt R (Int × U1)) (rec : Kt R T0) (x : T0) (S : LL) : Option R :=
 ifB (decide (x.2.2.2.1 < x.2.2.1)) (idxL x.2.1 x.2.2.2.1 fun v1 => mat 2 v1 fun c2 => asStr (c2.getD 0 .any) fun s3 => asStr (c2.getD 1 .any) fun s4 => script_IsName.fn k (s3,()) S fun r5 S => ifB (!r5.1) (Jret ((5 : Int),()) S) (ifB (decide ((s4.size : Int) > 300)) (q0 k (fun o8 S => rec (o8.1,o8.2.1,o8.2.2.1,(IntKind.wrap .i64 (o8.2.2.2.1 + 1)),()) S) Jret (x.1,x.2.2.2.1,(s3,s4,()),x.2.1,x.2.2.1,x.2.2.2.1,true,()) S) (strings_ContainsFunc_at_action_checkVars_1.fn k (s4,(()),()) S fun r10 S => q0 k (fun o11 S => rec (o11.1,o11.2.1,o11.2.2.1,(IntKind.wrap .i64 (o11.2.2.2.1 + 1)),()) S) Jret (x.1,x.2.2.2.1,(s3,s4,()),x.2.1,x.2.2.1,x.2.2.2.1,r10) S))) (J0 (()) S)
def L0 (k : Nat) : Pc PG R (.loop (su Tryz.f105 75)) := mkLoop T_ok (C k) _ z0 k (.seq .auto (.seq (.cond .auto (.mask e0 .auto)) (.seq (.block (.seq .auto (.block (.seq .auto (.cond (.seq .auto (.mask mr .auto)) (.seq .auto (.piece (Q0 k).h))))))) .auto))) ⟨tr,⟨tr,tr⟩,⟨tr,tr,⟨tr,tr⟩,tr,(Q0 k).ok⟩,tr⟩ (fun K => b0 k (kX K 0 e0) (kR K mr))
def fn (k : Nat) (x : (LL × U1)) (S : LL) (K : Kt R (Int × U1)) : Option R :=
 ifB (decide ((x.1.length : Int) > 30)) (K (2,()) S) (rounds (b0 k (fun o13 S => K (0,()) S) K) k (x.1,x.1,(x.1.length : Int),0,()) S)
def en (k : Nat) : Ent PG R := mkFn T_ok Tryz.func105 ps rs (C k) (.seq .auto (.seq (.seq .auto (.cond (.seq .auto (.mask mr .auto)) .auto)) (.seq (.seq .auto (.block (.piece (L0 k).h))) (.seq .auto (.mask mr .auto))))) ⟨tr,⟨tr,⟨tr,tr⟩,tr⟩,⟨tr,(L0 k).ok⟩,tr,tr⟩ (fn k)
end G.action_checkVars
namespace G.internal_stringslite_HasPrefix
abbrev ps : Mk := sS (sS [])
abbrev rs : Mk := sB []
abbrev mr : Mk := n4 (sB (nM 13 []))
def C (k : Nat) : List (Ent PG R) := []
def fn (k : Nat) (x : (BA × BA × U1)) (S : LL) (K : Kt R (Bool × U1)) : Option R :=
 ifB (decide ((x.1.size : Int) ≥ (x.2.1.size : Int))) (slStr x.1 (0 : Int) (x.2.1.size : Int) fun s1 => K ((strEq s1 x.2.1),()) S) (K (false,()) S)
def en (k : Nat) : Ent PG R := mkFn T_ok Tryz.func130 ps rs (C k) (.seq .auto (.seq .auto (.mask mr .auto))) ⟨tr,tr,tr⟩ (fn k)
end G.internal_stringslite_HasPrefix
namespace G.strings_HasPrefix
abbrev ps : Mk := sS (sS [])
abbrev rs : Mk := sB []
abbrev mr : Mk := n4 (sB (n3 []))
def C (k : Nat) : List (Ent PG R) := [internal_stringslite_HasPrefix.en k]
def fn (k : Nat) (x : (BA × BA × U1)) (S : LL) (K : Kt R (Bool × U1)) : Option R :=
 internal_stringslite_HasPrefix.fn k x S K
def en (k : Nat) : Ent PG R := mkFn T_ok Tryz.func98 ps rs (C k) (.seq .auto (.seq .auto (.mask mr .auto))) ⟨tr,tr,tr⟩ (fn k)
end G.strings_HasPrefix
namespace G.blob_Within
abbrev ps : Mk := sS (sS [])
abbrev rs : Mk := sB []
abbrev mr : Mk := n4 (sB (n4 []))
def C (k : Nat) : List (Ent PG R) := [strings_HasPrefix.en k]
def fn (k : Nat) (x : (BA × BA × U1)) (S : LL) (K : Kt R (Bool × U1)) : Option R :=
 catStr x.2.1 (bs [47]) fun s1 => strings_HasPrefix.fn k (x.1,s1,()) S K
def en (k : Nat) : Ent PG R := mkFn T_ok Tryz.func151 ps rs (C k) (.seq .auto (.seq .auto (.mask mr .auto))) ⟨tr,tr,tr⟩ (fn k)
end G.blob_Within
namespace G.action_checkOutputs_1
abbrev ps : Mk := sS (sP [])
abbrev rs : Mk := sB []
abbrev mr : Mk := n3 (sB (n3 []))
def C (k : Nat) : List (Ent PG R) := [blob_Within.en k]
def fn (k : Nat) (x : (BA × N2 × U1)) (S : LL) (K : Kt R (Bool × U1)) : Option R :=
 objAt S x.2.1.1 fun ty c1 => ldStr c1 x.2.1.2 fun s2 => blob_Within.fn k (s2,x.1,()) S K
def en (k : Nat) : Ent PG R := mkFn T_ok Tryz.func150 ps rs (C k) (.seq .auto (.seq (.own [(0,1)]) (.mask mr .auto))) ⟨tr,tr,tr⟩ (fn k)
end G.action_checkOutputs_1
namespace G.slices_IndexFunc_s_string_string_at_action_checkOutputs_1
abbrev ps : Mk := sL 1 (sh (.fn 150 [.ptr]) [])
abbrev rs : Mk := sI []
abbrev e0 : Mk := nM 19 []
abbrev m0 : Mk := sL 1 (sh (.fn 150 [.ptr]) (n5 (sI (sI (nX [])))))
abbrev mr : Mk := n4 (sI (nM 14 []))
abbrev T0 := LL × (N2 × U1) × Int × Int × U1
def C (k : Nat) : List (Ent PG R) := [action_checkOutputs_1.en k]
def b0 (k : Nat) (J0 : Kt R (U1)) (Jret : Kt R (Int × U1)) (rec : Kt R T0) (x : T0) (S : LL) : Option R :=
 ifB (decide (x.2.2.2.1 < x.2.2.1)) (idxL x.1 x.2.2.2.1 fun v1 => asStr (leaf v1 0) fun s2 => action_checkOutputs_1.fn k (s2,x.2.1) S fun r3 S => ifB r3.1 (Jret x.2.2.2 S) (rec (x.1,x.2.1,x.2.2.1,(IntKind.wrap .i64 (x.2.2.2.1 + 1)),()) S)) (J0 (()) S)
def L0 (k : Nat) : Pc PG R (.loop (su Tryz.f67 37)) := mkLoop T_ok (C k) _ m0 k (.seq .auto (.seq (.cond .auto (.mask e0 .auto)) (.seq (.block (.seq .auto (.seq .auto (.cond (.seq .auto (.mask mr .auto)) .auto)))) .auto))) ⟨tr,⟨tr,tr⟩,⟨tr,tr,⟨tr,tr⟩,tr⟩,tr⟩ (fun K => b0 k (kX K 0 e0) (kR K mr))
def fn (k : Nat) (x : (LL × (N2 × U1) × U1)) (S : LL) (K : Kt R (Int × U1)) : Option R :=
 rounds (b0 k (fun o4 S => K (-1,()) S) K) k (x.1,x.2.1,(x.1.length : Int),0,()) S
def en (k : Nat) : Ent PG R := mkFn T_ok Tryz.func67 ps rs (C k) (.seq .auto (.seq (.seq .auto (.block (.piece (L0 k).h))) (.seq .auto (.mask mr .auto)))) ⟨tr,⟨tr,(L0 k).ok⟩,tr,tr⟩ (fn k)
end G.slices_IndexFunc_s_string_string_at_action_checkOutputs_1
namespace G.slices_ContainsFunc_s_string_string_at_action_checkOutputs_1
abbrev ps : Mk := sL 1 (sh (.fn 150 [.ptr]) [])
abbrev rs : Mk := sB []
abbrev mr : Mk := n4 (sB (n4 []))
def C (k : Nat) : List (Ent PG R) := [slices_IndexFunc_s_string_string_at_action_checkOutputs_1.en k]
def fn (k : Nat) (x : (LL × (N2 × U1) × U1)) (S : LL) (K : Kt R (Bool × U1)) : Option R :=
 slices_IndexFunc_s_string_string_at_action_checkOutputs_1.fn k x S fun r1 S => K ((decide (r1.1 ≥ 0)),()) S
def en (k : Nat) : Ent PG R := mkFn T_ok Tryz.func37 ps rs (C k) (.seq .auto (.seq .auto (.mask mr .auto))) ⟨tr,tr,tr⟩ (fn k)
end G.slices_ContainsFunc_s_string_string_at_action_checkOutputs_1
namespace G.action_checkOutputs
abbrev ps : Mk := sL 1 []
abbrev rs : Mk := sI []
abbrev e0 : Mk := sL 1 (nM 44 [])
abbrev e2 : Mk := nM 45 []
abbrev m0 : Mk := sL 1 (nM 12 (sL 1 (sI (sI (nM 29 [])))))
abbrev m1 : Mk := sL 1 (nM 34 (sL 1 (sI (sI (n7 [])))))
abbrev mr : Mk := n2 (sI (nM 42 []))
abbrev T1 := Int × U1
abbrev T0 := LL × LL × Int × Int × U1
def C (k : Nat) : List (Ent PG R) := [blob_IsPath.en k,slices_ContainsFunc_s_string_string_at_action_checkOutputs_1.en k]
def b1 (k : Nat) (J2 : Kt R (U1)) (Jret : Kt R T1) (rec : Kt R T0) (x : T0) (S : LL) : Option R :=
 ifB (decide (x.2.2.2.1 < x.2.2.1)) (idxL x.2.1 x.2.2.2.1 fun v7 => asStr (leaf v7 0) fun s8 => newObj S (.obj 9 [(.str (bs []))]) fun i9 S => objAt S i9 fun ty c10 => stO c10 0 [(.str s8)] fun c11 => setS (S.set i9 (ty c11)) fun S => slices_ContainsFunc_s_string_string_at_action_checkOutputs_1.fn k (x.1,((i9,0),()),()) S fun r12 S => ifB r12.1 (Jret ((12 : Int),()) S) (rec (x.1,x.2.1,x.2.2.1,(IntKind.wrap .i64 (x.2.2.2.1 + 1)),()) S)) (J2 (()) S)
def L1 (k : Nat) : Pc PG R (.loop (su Tryz.f106 303)) := mkLoop T_ok (C k) _ m1 k (.seq .auto (.seq (.cond .auto (.mask e2 .auto)) (.seq (.block (.seq (.own [(2,1),(3,1)]) (.seq .auto (.cond (.seq .auto (.mask mr .auto)) .auto)))) .auto))) ⟨tr,⟨tr,tr⟩,⟨tr,tr,⟨tr,tr⟩,tr⟩,tr⟩ (fun K => b1 k (kX K 2 e2) (kR K mr))
def b0 (k : Nat) (J0 : Kt R (LL × U1)) (Jret : Kt R T1) (rec : Kt R T0) (x : T0) (S : LL) : Option R :=
 ifB (decide (x.2.2.2.1 < x.2.2.1)) (idxL x.2.1 x.2.2.2.1 fun v1 => asStr (leaf v1 0) fun s2 => blob_IsPath.fn k (s2,()) S fun r3 S => ifB (!r3.1) (Jret ((3 : Int),()) S) (ifB (decide (x.2.2.2.1 > 0)) (idxL x.1 (IntKind.wrap .i64 (x.2.2.2.1 - 1)) fun v4 => asStr (leaf v4 0) fun s5 => ifB (strLt s2 s5 || strEq s2 s5) (Jret ((8 : Int),()) S) (rec (x.1,x.2.1,x.2.2.1,(IntKind.wrap .i64 (x.2.2.2.1 + 1)),()) S)) (rec (x.1,x.2.1,x.2.2.1,(IntKind.wrap .i64 (x.2.2.2.1 + 1)),()) S))) (J0 (x.1,()) S)
def L0 (k : Nat) : Pc PG R (.loop (su Tryz.f106 151)) := mkLoop T_ok (C k) _ m0 k (.seq .auto (.seq (.cond .auto (.mask e0 .auto)) (.seq (.block (.seq .auto (.seq (.seq .auto (.cond (.seq .auto (.mask mr .auto)) .auto)) (.seq .auto (.cond (.seq .auto (.mask mr .auto)) .auto))))) .auto))) ⟨tr,⟨tr,tr⟩,⟨tr,⟨tr,⟨tr,tr⟩,tr⟩,tr,⟨tr,tr⟩,tr⟩,tr⟩ (fun K => b0 k (kX K 0 e0) (kR K mr))
def fn0 (k : Nat) (x : (LL × U1)) (S : LL) (K : Kt R T1) : Option R :=
 ifB ((x.1.length : Int) == 0) (K (9,()) S) (ifB (decide ((x.1.length : Int) > 100)) (K (2,()) S) (rounds (b0 k (fun o6 S => rounds (b1 k (fun o13 S => K (0,()) S) K) k (o6.1,o6.1,(o6.1.length : Int),0,()) S) K) k (x.1,x.1,(x.1.length : Int),0,()) S))
def en0 (k : Nat) : Ent PG R := mkFn T_ok Tryz.func106 ps rs (C k) (.seq .auto (.seq (.seq .auto (.cond (.seq .auto (.mask mr .auto)) .auto)) (.seq (.seq .auto (.cond (.seq .auto (.mask mr .auto)) .auto)) (.seq (.seq .auto (.block (.piece (L0 k).h))) (.seq (.seq .auto (.block (.piece (L1 k).h))) (.seq .auto (.mask mr .auto))))))) ⟨tr,⟨tr,⟨tr,tr⟩,tr⟩,⟨tr,⟨tr,tr⟩,tr⟩,⟨tr,(L0 k).ok⟩,⟨tr,(L1 k).ok⟩,tr,tr⟩ (fn0 k)
def fn (k : Nat) (x : (LL × U1)) (S : LL) (K : Kt R T1) : Option R := popK rs 6 S (fn0 k x S fun r S => some (resE rs r,S)) K
def en (k : Nat) : Ent PG R := mkPop (rs := rs) (en0 k).ok
end G.action_checkOutputs
namespace G.action_CheckAction
abbrev ps : Mk := sA [.str,.sl 1,.sl 2,.sl 1,.sl 2,jI] []
abbrev rs : Mk := sI []
abbrev e0 : Mk := n1 (sX [.str,.sl 1,.sl 2,.sl 1,.sl 2,jI] (nM 58 []))
abbrev m0 : Mk := n1 (sX [.str,.sl 1,.sl 2,.sl 1,.sl 2,jI] (nM 20 (sL 1 (sI (sI (nM 35 []))))))
abbrev mr : Mk := n2 (sI (nM 57 []))
abbrev T1 := (BA × LL × LL × LL × LL × Int × U1) × U1
abbrev T0 := (BA × LL × LL × LL × LL × Int × U1) × LL × Int × Int × U1
def C (k : Nat) : List (Ent PG R) := [blob_IsDigest.en k,action_checkCommand.en k,action_checkVars.en k,action_checkOutputs.en k]
def b0 (k : Nat) (J0 : Kt R T1) (Jret : Kt R (Int × U1)) (rec : Kt R T0) (x : T0) (S : LL) : Option R :=
 ifB (decide (x.2.2.2.1 < x.2.2.1)) (idxL x.2.1 x.2.2.2.1 fun v2 => asSl 1 (leaf v2 0) fun l3 => action_checkCommand.fn k (l3,()) S fun r4 S => ifB (r4.1 != 0) (Jret r4 S) (rec (x.1,x.2.1,x.2.2.1,(IntKind.wrap .i64 (x.2.2.2.1 + 1)),()) S)) (J0 (x.1,()) S)
def L0 (k : Nat) : Pc PG R (.loop (su Tryz.f75 303)) := mkLoop T_ok (C k) _ m0 k (.seq .auto (.seq (.cond .auto (.mask e0 .auto)) (.seq (.block (.seq .auto (.seq .auto (.seq .auto (.cond (.seq .auto (.mask mr .auto)) .auto))))) .auto))) ⟨tr,⟨tr,tr⟩,⟨tr,tr,tr,⟨tr,tr⟩,tr⟩,tr⟩ (fun K => b0 k (kX K 0 e0) (kR K mr))
def fn (k : Nat) (x : T1) (S : LL) (K : Kt R (Int × U1)) : Option R :=
 blob_IsDigest.fn k (x.1.1,()) S fun r1 S => ifB (!r1.1) (K (3,()) S) (ifB ((x.1.2.1.length : Int) == 0) (K (9,()) S) (ifB (decide ((x.1.2.1.length : Int) > 50)) (K (2,()) S) (rounds (b0 k (fun o5 S => action_checkVars.fn k (o5.1.2.2.1,()) S fun r6 S => ifB (r6.1 != 0) (K r6 S) (action_checkOutputs.fn k (o5.1.2.2.2.1,()) S fun r7 S => ifB (r7.1 != 0) (K r7 S) (action_checkVars.fn k (o5.1.2.2.2.2.1,()) S fun r8 S => ifB (r8.1 != 0) (K r8 S) (ifB (decide (o5.1.2.2.2.2.2.1 < 1)) (K (1,()) S) (ifB (decide (o5.1.2.2.2.2.2.1 > 100000)) (K (1,()) S) (K (0,()) S)))))) K) k (x.1,x.1.2.1,(x.1.2.1.length : Int),0,()) S)))
def en (k : Nat) : Ent PG R := mkFn T_ok Tryz.func75 ps rs (C k) (.seq .auto (.seq (.seq .auto (.cond (.seq .auto (.mask mr .auto)) .auto)) (.seq (.seq .auto (.cond (.seq .auto (.mask mr .auto)) .auto)) (.seq (.seq .auto (.cond (.seq .auto (.mask mr .auto)) .auto)) (.seq (.seq .auto (.block (.piece (L0 k).h))) (.seq (.seq .auto (.seq .auto (.cond (.seq .auto (.mask mr .auto)) .auto))) (.seq (.seq .auto (.seq .auto (.cond (.seq .auto (.mask mr .auto)) .auto))) (.seq (.seq .auto (.seq .auto (.cond (.seq .auto (.mask mr .auto)) .auto))) (.seq (.seq .auto (.cond (.seq .auto (.mask mr .auto)) .auto)) (.seq .auto (.mask mr .auto))))))))))) ⟨tr,⟨tr,⟨tr,tr⟩,tr⟩,⟨tr,⟨tr,tr⟩,tr⟩,⟨tr,⟨tr,tr⟩,tr⟩,⟨tr,(L0 k).ok⟩,⟨tr,tr,⟨tr,tr⟩,tr⟩,⟨tr,tr,⟨tr,tr⟩,tr⟩,⟨tr,tr,⟨tr,tr⟩,tr⟩,⟨tr,⟨tr,tr⟩,tr⟩,tr,tr⟩ (fn k)
end G.action_CheckAction
namespace G.steps_checkRule
abbrev ps : Mk := sA [.str,.str,.sl 1,.sl 2,.sl 1,.sl 2,jI,.sl 1] []
abbrev rs : Mk := sI []
abbrev e0 : Mk := nM 44 []
abbrev m0 : Mk := n1 (sX [.str,.str,.sl 1,.sl 2,.sl 1,.sl 2,jI,.sl 1] (nM 19 (sL 1 (sI (sI (nM 20 []))))))
abbrev mr : Mk := n2 (sI (nM 41 []))
abbrev T0 := (BA × BA × LL × LL × LL × LL × Int × LL × U1) × LL × Int × Int × U1
def C (k : Nat) : List (Ent PG R) := [blob_IsPath.en k,action_CheckAction.en k]
def b0 (k : Nat) (J0 : Kt R (U1)) (Jret : Kt R (Int × U1)) (rec : Kt R T0) (x : T0) (S : LL) : Option R :=
 ifB (decide (x.2.2.2.1 < x.2.2.1)) (idxL x.2.1 x.2.2.2.1 fun v3 => asStr (leaf v3 0) fun s4 => blob_IsPath.fn k (s4,()) S fun r5 S => ifB (!r5.1) (Jret ((3 : Int),()) S) (ifB (decide (x.2.2.2.1 > 0)) (idxL x.1.2.2.2.2.2.2.2.1 (IntKind.wrap .i64 (x.2.2.2.1 - 1)) fun v6 => asStr (leaf v6 0) fun s7 => ifB (strLt s4 s7 || strEq s4 s7) (Jret ((8 : Int),()) S) (rec (x.1,x.2.1,x.2.2.1,(IntKind.wrap .i64 (x.2.2.2.1 + 1)),()) S)) (rec (x.1,x.2.1,x.2.2.1,(IntKind.wrap .i64 (x.2.2.2.1 + 1)),()) S))) (J0 (()) S)
def L0 (k : Nat) : Pc PG R (.loop (su Tryz.f48 303)) := mkLoop T_ok (C k) _ m0 k (.seq .auto (.seq (.cond .auto (.mask e0 .auto)) (.seq (.block (.seq .auto (.seq (.seq .auto (.cond (.seq .auto (.mask mr .auto)) .auto)) (.seq .auto (.cond (.seq .auto (.mask mr .auto)) .auto))))) .auto))) ⟨tr,⟨tr,tr⟩,⟨tr,⟨tr,⟨tr,tr⟩,tr⟩,tr,⟨tr,tr⟩,tr⟩,tr⟩ (fun K => b0 k (kX K 0 e0) (kR K mr))
def fn (k : Nat) (x : ((BA × BA × LL × LL × LL × LL × Int × LL × U1) × U1)) (S : LL) (K : Kt R (Int × U1)) : Option R :=
 blob_IsPath.fn k (x.1.1,()) S fun r1 S => ifB (!r1.1) (K (3,()) S) (action_CheckAction.fn k ((x.1.2.1,x.1.2.2.1,x.1.2.2.2.1,x.1.2.2.2.2.1,x.1.2.2.2.2.2.1,x.1.2.2.2.2.2.2.1,()),()) S fun r2 S => ifB (r2.1 != 0) (K r2 S) (ifB (decide ((x.1.2.2.2.2.2.2.2.1.length : Int) > 1000)) (K (2,()) S) (rounds (b0 k (fun o8 S => K (0,()) S) K) k (x.1,x.1.2.2.2.2.2.2.2.1,(x.1.2.2.2.2.2.2.2.1.length : Int),0,()) S)))
def en (k : Nat) : Ent PG R := mkFn T_ok Tryz.func48 ps rs (C k) (.seq .auto (.seq (.seq .auto (.cond (.seq .auto (.mask mr .auto)) .auto)) (.seq (.seq .auto (.seq .auto (.cond (.seq .auto (.mask mr .auto)) .auto))) (.seq (.seq .auto (.cond (.seq .auto (.mask mr .auto)) .auto)) (.seq (.seq .auto (.block (.piece (L0 k).h))) (.seq .auto (.mask mr .auto))))))) ⟨tr,⟨tr,⟨tr,tr⟩,tr⟩,⟨tr,tr,⟨tr,tr⟩,tr⟩,⟨tr,⟨tr,tr⟩,tr⟩,⟨tr,(L0 k).ok⟩,tr,tr⟩ (fn k)
end G.steps_checkRule
namespace G.steps_above
abbrev ps : Mk := sS []
abbrev rs : Mk := sO 9 1 []
abbrev e0 : Mk := n3 (sO 9 1 (nM 18 []))
abbrev m0 : Mk := sS (n2 (sO 9 1 (n2 (sI (sI (nM 14 []))))))
abbrev mr : Mk := n2 (sO 9 1 (nM 19 []))
abbrev T0 := BA × LL × Int × Int × U1
def C (k : Nat) : List (Ent PG R) := []
def b0 (k : Nat) (J0 : Kt R (LL × U1)) (rec : Kt R T0) (x : T0) (S : LL) : Option R :=
 ifB (decide (x.2.2.2.1 < x.2.2.1)) (idxStr x.1 x.2.2.2.1 fun c1 => ifB (c1 == 47) (slStr x.1 (0 : Int) x.2.2.2.1 fun s2 => app 16 x.2.1 [(.str s2)] fun l3 => rec (x.1,l3,x.2.2.1,(IntKind.wrap .i64 (x.2.2.2.1 + 1)),()) S) (rec (x.1,x.2.1,x.2.2.1,(IntKind.wrap .i64 (x.2.2.2.1 + 1)),()) S)) (J0 (x.2.1,()) S)
def L0 (k : Nat) : Pc PG R (.loop (su Tryz.f76 75)) := mkLoop T_ok (C k) _ m0 k (.seq .auto (.seq (.cond .auto (.mask e0 .auto)) (.seq (.block (.seq .auto (.seq .auto (.cond (.own [(0,1)]) .auto)))) .auto))) ⟨tr,⟨tr,tr⟩,⟨tr,tr,tr,tr⟩,tr⟩ (fun K => b0 k (kX K 0 e0))
def fn (k : Nat) (x : (BA × U1)) (S : LL) (K : Kt R (LL × U1)) : Option R :=
 rounds (b0 k K) k (x.1,[],(x.1.size : Int),0,()) S
def en (k : Nat) : Ent PG R := mkFn T_ok Tryz.func76 ps rs (C k) (.seq .auto (.seq .auto (.seq (.seq .auto (.block (.piece (L0 k).h))) (.seq (.own [(0,1)]) (.mask mr .auto))))) ⟨tr,tr,⟨tr,(L0 k).ok⟩,tr,tr⟩ (fn k)
end G.steps_above
namespace G.steps_tangleOf
abbrev ps : Mk := sL 8 []
abbrev rs : Mk := sA [.map,.map,.map,.map] []
abbrev e0 : Mk := n2 (sX [.nilm,.nilm,.nilm,.nilm] (sX [.map,.map,.map,.map] (nM 68 [])))
abbrev e2 : Mk := n2 (sX [.nilm,.nilm,.nilm,.nilm] (sX [.map,.map,.map,.map] (n1 (sX [.str,.str,.sl 1,.sl 2,.sl 1,.sl 2,jI,.sl 1] (nM 13 (sL 8 (sI (sI (nM 50 [])))))))))
abbrev e4 : Mk := n2 (sX [.nilm,.nilm,.nilm,.nilm] (sX [.map,.map,.map,.map] (n1 (sX [.str,.str,.sl 1,.sl 2,.sl 1,.sl 2,jI,.sl 1] (nM 13 (sL 8 (sI (sI (n5 (sL 1 (sI (sI (nM 42 [])))))))))))))
abbrev e6 : Mk := n2 (sX [.nilm,.nilm,.nilm,.nilm] (sX [.map,.map,.map,.map] (nM 15 (sL 8 (sI (sI (nM 50 [])))))))
abbrev e8 : Mk := n2 (sX [.nilm,.nilm,.nilm,.nilm] (sX [.map,.map,.map,.map] (nM 15 (sL 8 (sI (sI (nM 27 (sL 1 (sI (sI (nM 20 [])))))))))))
abbrev m2 : Mk := n2 (sX [.nilm,.nilm,.nilm,.nilm] (sX [.map,.map,.map,.map] (n1 (sX [.str,.str,.sl 1,.sl 2,.sl 1,.sl 2,jI,.sl 1] (nM 13 (sL 8 (sI (sI (n5 (sL 1 (sI (sI (n7 (sO 9 1 (sI (sI (nM 32 [])))))))))))))))))
abbrev m4 : Mk := n2 (sX [.nilm,.nilm,.nilm,.nilm] (sX [.map,.map,.map,.map] (nM 15 (sL 8 (sI (sI (nM 27 (sL 1 (sI (sI (n7 (sO 9 1 (sI (sI (nX [])))))))))))))))
abbrev mr : Mk := n2 (sX [.map,.map,.map,.map] (nM 69 []))
abbrev T6 := U1 × U1 × U1 × U1 × U1
abbrev T5 := Nat × Nat × Nat × Nat × U1
abbrev T4 := T6 × T5 × LL × Int × Int × U1
abbrev T3 := T6 × T5 × LL × Int × Int × LL × Int × Int × U1
abbrev T2 := T6 × T5 × LL × Int × Int × LL × Int × Int × LL × Int × Int × U1
abbrev T1 := T6 × T5 × (BA × BA × LL × LL × LL × LL × Int × LL × U1) × LL × Int × Int × LL × Int × Int × U1
abbrev T0 := T6 × T5 × (BA × BA × LL × LL × LL × LL × Int × LL × U1) × LL × Int × Int × LL × Int × Int × LL × Int × Int × U1
def C (k : Nat) : List (Ent PG R) := [steps_above.en k]
def b2 (k : Nat) (J4 : Kt R T1) (rec : Kt R T0) (x : T0) (S : LL) : Option R :=
 ifB (decide (x.2.2.2.2.2.2.2.2.2.2.2.1 < x.2.2.2.2.2.2.2.2.2.2.1)) (idxL x.2.2.2.2.2.2.2.2.2.1 x.2.2.2.2.2.2.2.2.2.2.2.1 fun v19 => asStr (leaf v19 0) fun s20 => mpAt S x.2.1.2.2.1 .str fun m21 => setS (S.set x.2.1.2.2.1 (.mp .str (mapPut m21 (.str s20) (.bool true)))) fun S => rec (((),(),(),(),()),x.2.1,x.2.2.1,x.2.2.2.1,x.2.2.2.2.1,x.2.2.2.2.2.1,x.2.2.2.2.2.2.1,x.2.2.2.2.2.2.2.1,x.2.2.2.2.2.2.2.2.1,x.2.2.2.2.2.2.2.2.2.1,x.2.2.2.2.2.2.2.2.2.2.1,(IntKind.wrap .i64 (x.2.2.2.2.2.2.2.2.2.2.2.1 + 1)),()) S) (J4 (((),(),(),(),()),x.2.1,x.2.2.1,x.2.2.2.1,x.2.2.2.2.1,x.2.2.2.2.2.1,x.2.2.2.2.2.2.1,x.2.2.2.2.2.2.2.1,x.2.2.2.2.2.2.2.2.1,()) S)
def L2 (k : Nat) : Pc PG R (.loop (su Tryz.f49 20550859)) := mkLoop T_ok (C k) _ m2 k (.seq .auto (.seq (.cond .auto (.mask e4 .auto)) (.seq (.block (.seq .auto .auto)) .auto))) ⟨tr,⟨tr,tr⟩,⟨tr,tr⟩,tr⟩ (fun K => b2 k (kX K 4 e4))
def b4 (k : Nat) (J8 : Kt R T3) (rec : Kt R T2) (x : T2) (S : LL) : Option R :=
 ifB (decide (x.2.2.2.2.2.2.2.2.2.2.1 < x.2.2.2.2.2.2.2.2.2.1)) (idxL x.2.2.2.2.2.2.2.2.1 x.2.2.2.2.2.2.2.2.2.2.1 fun v28 => asStr (leaf v28 0) fun s29 => mpAt S x.2.1.2.2.2.1 .str fun m30 => setS (S.set x.2.1.2.2.2.1 (.mp .str (mapPut m30 (.str s29) (.bool true)))) fun S => rec (((),(),(),(),()),x.2.1,x.2.2.1,x.2.2.2.1,x.2.2.2.2.1,x.2.2.2.2.2.1,x.2.2.2.2.2.2.1,x.2.2.2.2.2.2.2.1,x.2.2.2.2.2.2.2.2.1,x.2.2.2.2.2.2.2.2.2.1,(IntKind.wrap .i64 (x.2.2.2.2.2.2.2.2.2.2.1 + 1)),()) S) (J8 (((),(),(),(),()),x.2.1,x.2.2.1,x.2.2.2.1,x.2.2.2.2.1,x.2.2.2.2.2.1,x.2.2.2.2.2.2.1,x.2.2.2.2.2.2.2.1,()) S)
def L4 (k : Nat) : Pc PG R (.loop (su Tryz.f49 20552907)) := mkLoop T_ok (C k) _ m4 k (.seq .auto (.seq (.cond .auto (.mask e8 .auto)) (.seq (.block (.seq .auto .auto)) .auto))) ⟨tr,⟨tr,tr⟩,⟨tr,tr⟩,tr⟩ (fun K => b4 k (kX K 8 e8))
def b1 (k : Nat) (J2 : Kt R (T6 × T5 × (BA × BA × LL × LL × LL × LL × Int × LL × U1) × LL × Int × Int × U1)) (rec : Kt R T1) (x : T1) (S : LL) : Option R :=
 ifB (decide (x.2.2.2.2.2.2.2.2.1 < x.2.2.2.2.2.2.2.1)) (idxL x.2.2.2.2.2.2.1 x.2.2.2.2.2.2.2.2.1 fun v15 => asStr (leaf v15 0) fun s16 => mpAt S x.2.1.1 .str fun m17 => setS (S.set x.2.1.1 (.mp .str (mapPut m17 (.str s16) (.bool true)))) fun S => steps_above.fn k (s16,()) S fun r18 S => rounds (b2 k (fun o22 S => rec (((),(),(),(),()),o22.2.1,o22.2.2.1,o22.2.2.2.1,o22.2.2.2.2.1,o22.2.2.2.2.2.1,o22.2.2.2.2.2.2.1,o22.2.2.2.2.2.2.2.1,(IntKind.wrap .i64 (o22.2.2.2.2.2.2.2.2.1 + 1)),()) S)) k (((),(),(),(),()),x.2.1,x.2.2.1,x.2.2.2.1,x.2.2.2.2.1,x.2.2.2.2.2.1,x.2.2.2.2.2.2.1,x.2.2.2.2.2.2.2.1,x.2.2.2.2.2.2.2.2.1,r18.1,(r18.1.length : Int),0,()) S) (J2 (((),(),(),(),()),x.2.1,x.2.2.1,x.2.2.2.1,x.2.2.2.2.1,x.2.2.2.2.2.1,()) S)
def L1 (k : Nat) : Pc PG R (.loop (su Tryz.f49 38091)) := mkLoop T_ok (C k) _ e4 k (.seq .auto (.seq (.cond .auto (.mask e2 .auto)) (.seq (.block (.seq .auto (.seq .auto (.seq .auto (.block (.piece (L2 k).h)))))) .auto))) ⟨tr,⟨tr,tr⟩,⟨tr,tr,tr,(L2 k).ok⟩,tr⟩ (fun K => b1 k (kX K 2 e2))
def b3 (k : Nat) (J6 : Kt R T4) (rec : Kt R T3) (x : T3) (S : LL) : Option R :=
 ifB (decide (x.2.2.2.2.2.2.2.1 < x.2.2.2.2.2.2.1)) (idxL x.2.2.2.2.2.1 x.2.2.2.2.2.2.2.1 fun v24 => asStr (leaf v24 0) fun s25 => mpAt S x.2.1.2.1 .str fun m26 => setS (S.set x.2.1.2.1 (.mp .str (mapPut m26 (.str s25) (.bool true)))) fun S => steps_above.fn k (s25,()) S fun r27 S => rounds (b4 k (fun o31 S => rec (((),(),(),(),()),o31.2.1,o31.2.2.1,o31.2.2.2.1,o31.2.2.2.2.1,o31.2.2.2.2.2.1,o31.2.2.2.2.2.2.1,(IntKind.wrap .i64 (o31.2.2.2.2.2.2.2.1 + 1)),()) S)) k (((),(),(),(),()),x.2.1,x.2.2.1,x.2.2.2.1,x.2.2.2.2.1,x.2.2.2.2.2.1,x.2.2.2.2.2.2.1,x.2.2.2.2.2.2.2.1,r27.1,(r27.1.length : Int),0,()) S) (J6 (((),(),(),(),()),x.2.1,x.2.2.1,x.2.2.2.1,x.2.2.2.2.1,()) S)
def L3 (k : Nat) : Pc PG R (.loop (su Tryz.f49 40139)) := mkLoop T_ok (C k) _ e8 k (.seq .auto (.seq (.cond .auto (.mask e6 .auto)) (.seq (.block (.seq .auto (.seq .auto (.seq .auto (.block (.piece (L4 k).h)))))) .auto))) ⟨tr,⟨tr,tr⟩,⟨tr,tr,tr,(L4 k).ok⟩,tr⟩ (fun K => b3 k (kX K 6 e6))
def b0 (k : Nat) (J0 : Kt R (T6 × T5 × U1)) (rec : Kt R T4) (x : T4) (S : LL) : Option R :=
 ifB (decide (x.2.2.2.2.1 < x.2.2.2.1)) (idxL x.2.2.1 x.2.2.2.2.1 fun v5 => mat 8 v5 fun c6 => asStr (c6.getD 0 .any) fun s7 => asStr (c6.getD 1 .any) fun s8 => asSl 1 (c6.getD 2 .any) fun l9 => asSl 2 (c6.getD 3 .any) fun l10 => asSl 1 (c6.getD 4 .any) fun l11 => asSl 2 (c6.getD 5 .any) fun l12 => asInt .i64 (c6.getD 6 .any) fun n13 => asSl 1 (c6.getD 7 .any) fun l14 => rounds (b1 k (fun o23 S => rounds (b3 k (fun o32 S => rec (((),(),(),(),()),o32.2.1,o32.2.2.1,o32.2.2.2.1,(IntKind.wrap .i64 (o32.2.2.2.2.1 + 1)),()) S)) k (((),(),(),(),()),o23.2.1,o23.2.2.2.1,o23.2.2.2.2.1,o23.2.2.2.2.2.1,o23.2.2.1.2.2.2.2.2.2.2.1,(o23.2.2.1.2.2.2.2.2.2.2.1.length : Int),0,()) S)) k (((),(),(),(),()),x.2.1,(s7,s8,l9,l10,l11,l12,n13,l14,()),x.2.2.1,x.2.2.2.1,x.2.2.2.2.1,l11,(l11.length : Int),0,()) S) (J0 (((),(),(),(),()),x.2.1,()) S)
def L0 (k : Nat) : Pc PG R (.loop (su Tryz.f49 75)) := mkLoop T_ok (C k) _ e6 k (.seq .auto (.seq (.cond .auto (.mask e0 .auto)) (.seq (.block (.seq .auto (.seq (.seq .auto (.block (.piece (L1 k).h))) (.seq .auto (.block (.piece (L3 k).h)))))) .auto))) ⟨tr,⟨tr,tr⟩,⟨tr,⟨tr,(L1 k).ok⟩,tr,(L3 k).ok⟩,tr⟩ (fun K => b0 k (kX K 0 e0))
def fn (k : Nat) (x : (LL × U1)) (S : LL) (K : Kt R (T5 × U1)) : Option R :=
 newObj S (.mp .str []) fun i1 S => newObj S (.mp .str []) fun i2 S => newObj S (.mp .str []) fun i3 S => newObj S (.mp .str []) fun i4 S => rounds (b0 k (fun o33 S => K o33.2 S)) k (((),(),(),(),()),(i1,i2,i3,i4,()),x.1,(x.1.length : Int),0,()) S
def en (k : Nat) : Ent PG R := mkFn T_ok Tryz.func49 ps rs (C k) (.seq .auto (.seq .auto (.seq (.seq .auto (.block (.piece (L0 k).h))) (.seq .auto (.mask mr .auto))))) ⟨tr,tr,⟨tr,(L0 k).ok⟩,tr,tr⟩ (fn k)
end G.steps_tangleOf
namespace G.steps_tangle_clashes_1
abbrev ps : Mk := sS (sP [])
abbrev rs : Mk := sB []
abbrev mr : Mk := n3 (sB (nX []))
def C (k : Nat) : List (Ent PG R) := []
def fn (k : Nat) (x : (BA × N2 × U1)) (S : LL) (K : Kt R (Bool × U1)) : Option R :=
 objAt S x.2.1.1 fun ty c1 => ldRaw c1 (x.2.1.2 + 0) fun v2 => asMap v2 fun i3 => mpAt S i3 .str fun m4 => asBool ((mapGet m4 (.str x.1)).getD (.bool false)) fun b5 => ifB b5 (K (true,()) S) (objAt S x.2.1.1 fun ty c6 => ldRaw c6 (x.2.1.2 + 1) fun v7 => asMap v7 fun i8 => mpAt S i8 .str fun m9 => asBool ((mapGet m9 (.str x.1)).getD (.bool false)) fun b10 => K (b10,()) S)
def en (k : Nat) : Ent PG R := mkFn T_ok Tryz.func77 ps rs (C k) (.seq .auto (.seq (.own [(1,3),(6,3)]) (.mask mr .auto))) ⟨tr,tr,tr⟩ (fn k)
end G.steps_tangle_clashes_1
namespace G.slices_IndexFunc_s_string_string_at_steps_tangle_clashes_1
abbrev ps : Mk := sL 1 (sh (.fn 77 [.ptr]) [])
abbrev rs : Mk := sI []
abbrev e0 : Mk := nM 19 []
abbrev m0 : Mk := sL 1 (sh (.fn 77 [.ptr]) (n5 (sI (sI (nX [])))))
abbrev mr : Mk := n4 (sI (nM 14 []))
abbrev T0 := LL × (N2 × U1) × Int × Int × U1
def C (k : Nat) : List (Ent PG R) := [steps_tangle_clashes_1.en k]
def b0 (k : Nat) (J0 : Kt R (U1)) (Jret : Kt R (Int × U1)) (rec : Kt R T0) (x : T0) (S : LL) : Option R :=
 ifB (decide (x.2.2.2.1 < x.2.2.1)) (idxL x.1 x.2.2.2.1 fun v1 => asStr (leaf v1 0) fun s2 => steps_tangle_clashes_1.fn k (s2,x.2.1) S fun r3 S => ifB r3.1 (Jret x.2.2.2 S) (rec (x.1,x.2.1,x.2.2.1,(IntKind.wrap .i64 (x.2.2.2.1 + 1)),()) S)) (J0 (()) S)
def L0 (k : Nat) : Pc PG R (.loop (su Tryz.f67 37)) := mkLoop T_ok (C k) _ m0 k (.seq .auto (.seq (.cond .auto (.mask e0 .auto)) (.seq (.block (.seq .auto (.seq .auto (.cond (.seq .auto (.mask mr .auto)) .auto)))) .auto))) ⟨tr,⟨tr,tr⟩,⟨tr,tr,⟨tr,tr⟩,tr⟩,tr⟩ (fun K => b0 k (kX K 0 e0) (kR K mr))
def fn (k : Nat) (x : (LL × (N2 × U1) × U1)) (S : LL) (K : Kt R (Int × U1)) : Option R :=
 rounds (b0 k (fun o4 S => K (-1,()) S) K) k (x.1,x.2.1,(x.1.length : Int),0,()) S
def en (k : Nat) : Ent PG R := mkFn T_ok Tryz.func67 ps rs (C k) (.seq .auto (.seq (.seq .auto (.block (.piece (L0 k).h))) (.seq .auto (.mask mr .auto)))) ⟨tr,⟨tr,(L0 k).ok⟩,tr,tr⟩ (fn k)
end G.slices_IndexFunc_s_string_string_at_steps_tangle_clashes_1
namespace G.slices_ContainsFunc_s_string_string_at_steps_tangle_clashes_1
abbrev ps : Mk := sL 1 (sh (.fn 77 [.ptr]) [])
abbrev rs : Mk := sB []
abbrev mr : Mk := n4 (sB (n4 []))
def C (k : Nat) : List (Ent PG R) := [slices_IndexFunc_s_string_string_at_steps_tangle_clashes_1.en k]
def fn (k : Nat) (x : (LL × (N2 × U1) × U1)) (S : LL) (K : Kt R (Bool × U1)) : Option R :=
 slices_IndexFunc_s_string_string_at_steps_tangle_clashes_1.fn k x S fun r1 S => K ((decide (r1.1 ≥ 0)),()) S
def en (k : Nat) : Ent PG R := mkFn T_ok Tryz.func37 ps rs (C k) (.seq .auto (.seq .auto (.mask mr .auto))) ⟨tr,tr,tr⟩ (fn k)
end G.slices_ContainsFunc_s_string_string_at_steps_tangle_clashes_1
namespace G.steps_tangle_clashes
abbrev ps : Mk := sA [.map,.map,.map,.map] (sS [])
abbrev rs : Mk := sB []
abbrev mr : Mk := n4 (sB (nX []))
def C (k : Nat) : List (Ent PG R) := [slices_ContainsFunc_s_string_string_at_steps_tangle_clashes_1.en k,steps_above.en k]
def fn (k : Nat) (x : ((Nat × Nat × Nat × Nat × U1) × BA × U1)) (S : LL) (K : Kt R (Bool × U1)) : Option R :=
 newObj S (.obj 92 [(.map x.1.1),(.map x.1.2.1),(.map x.1.2.2.1),(.map x.1.2.2.2.1)]) fun i1 S => objAt S i1 fun ty c2 => ldRaw c2 3 fun v3 => asMap v3 fun i4 => mpAt S i4 .str fun m5 => asBool ((mapGet m5 (.str x.2.1)).getD (.bool false)) fun b6 => ifB b6 (K (true,()) S) (steps_above.fn k x.2 S fun r7 S => slices_ContainsFunc_s_string_string_at_steps_tangle_clashes_1.fn k (r7.1,((i1,0),()),()) S K)
def en (k : Nat) : Ent PG R := mkFn T_ok Tryz.func50 ps rs (C k) (.seq (.own [(0,1)]) (.seq (.own [(1,3)]) (.mask mr .auto))) ⟨tr,tr,tr⟩ (fn k)
end G.steps_tangle_clashes
namespace G.maps_Keys_map_int_bool_int_bool
abbrev ps : Mk := sh (.lf (.map)) []
abbrev rs : Mk := sh (.fn 80 [.ptr]) []
abbrev mr : Mk := n2 (sh (.fn 80 [.ptr]) (n1 []))
def C (k : Nat) : List (Ent PG R) := []
def fn (k : Nat) (x : (Nat × U1)) (S : LL) (K : Kt R ((N2 × U1) × U1)) : Option R :=
 newObj S (.obj 94 [(.map x.1)]) fun i1 S => K (((i1,0),()),()) S
def en (k : Nat) : Ent PG R := mkFn T_ok Tryz.func52 ps rs (C k) (.seq (.own [(0,1)]) (.seq .auto (.mask mr .auto))) ⟨tr,tr,tr⟩ (fn k)
end G.maps_Keys_map_int_bool_int_bool
namespace G.steps_plan_order_nils
abbrev ps : Mk := sP (sh (.lf (.nils)) [])
abbrev rs : Mk := sO 3 1 (sB [])
abbrev c0 : Mk := sP (sh (.lf (.nils)) (n4 (sQ 1 (sQ 1 (sI (sI (nM 23 (sL 1 (sI (sI (nM 19 (sL 1 (sI (sI (nM 83 [])))))))))))))))
abbrev c1 : Mk := sP (sh (.lf (.nils)) (n4 (sQ 1 (sQ 1 (sI (sI (sL 1 (nM 22 (sL 1 (sI (sI (nM 11 (sB (nM 93 []))))))))))))))
abbrev c2 : Mk := sP (sh (.lf (.nils)) (n4 (sQ 1 (sQ 1 (sI (sI (sL 1 (nM 22 (sL 1 (sI (sI (nM 105 []))))))))))))
abbrev c4 : Mk := sP (sh (.lf (.nils)) (n4 (sQ 1 (sQ 1 (sI (sI (nM 23 (sL 1 (sI (sI (nM 19 (sL 1 (sI (sI (sB (nM 82 []))))))))))))))))
abbrev c6 : Mk := sP (sh (.lf (.nils)) (n4 (sQ 1 (sQ 1 (sI (sI (n2 (sI (nM 20 (sL 1 (sI (sI (nM 19 (sL 1 (sI (sI (nM 83 [])))))))))))))))))
abbrev c7 : Mk := n1 (sh (.lf (.nils)) (n4 (sQ 1 (sQ 1 (sI (n4 (sQ 1 (sO 3 1 (sI (nM 125 []))))))))))
abbrev z0 : Mk := sP (sh (.lf (.nils)) (n4 (sQ 1 (sQ 1 (sI (nM 24 (sL 1 (sI (sI (nM 105 []))))))))))
abbrev e0 : Mk := sP (sh (.lf (.nils)) (n4 (sQ 1 (sQ 1 (sI (nM 132 []))))))
abbrev e4 : Mk := nM 14 (sO 3 1 (nM 126 []))
abbrev e8 : Mk := n1 (sh (.lf (.nils)) (n4 (sQ 1 (sQ 1 (sI (n4 (sQ 1 (sO 3 1 (nM 126 [])))))))))
abbrev m4 : Mk := n1 (sh (.lf (.nils)) (n4 (sQ 1 (sQ 1 (sI (n4 (sQ 1 (sO 3 1 (nM 112 (sL 1 (sI (sI (nM 11 [])))))))))))))
abbrev mr : Mk := n4 (sO 3 1 (sB (nM 135 [])))
abbrev T5 := U1 × N3 × N3 × Int × N3 × LL × U1
abbrev T4 := U1 × N3 × N3 × Int × N3 × LL × Int × U1
abbrev T3 := N2 × U1 × N3 × N3 × Int × LL × Int × Int × U1
abbrev T2 := U1 × N3 × N3 × Int × N3 × LL × LL × Int × Int × U1
abbrev T1 := N2 × U1 × N3 × N3 × Int × Int × LL × LL × Int × Int × U1
abbrev T0 := N2 × U1 × N3 × N3 × Int × Int × LL × Int × Int × LL × Int × Int × U1
def C (k : Nat) : List (Ent PG R) := []
def q6 (k : Nat) (Jnrm : Kt R T0)  (x : (N2 × U1 × N3 × N3 × Int × Int × Int × LL × Int × Int × LL × Int × Int × U1)) (S : LL) : Option R :=
 idxN x.2.2.2.1.2.2 x.2.2.2.2.2.2.1 fun v18 => objAt S x.2.2.2.1.1 fun ty c19 => asOwn 3 1 (c19.getD (x.2.2.2.1.2.1 + v18 * 1) .any) fun l20 => setS (S.set x.2.2.2.1.1 (ty (c19.set (x.2.2.2.1.2.1 + v18 * 1) (.sl 1 l20)))) fun S => app 8 l20 [(.int .i64 x.2.2.2.2.2.1)] fun l21 => idxN x.2.2.2.1.2.2 x.2.2.2.2.2.2.1 fun v22 => objAt S x.2.2.2.1.1 fun ty c23 => stO c23 (x.2.2.2.1.2.1 + v22 * 1) [(.own 3 1 l21)] fun c24 => setS (S.set x.2.2.2.1.1 (ty c24)) fun S => Jnrm (x.1,(),x.2.2.1,x.2.2.2.1,x.2.2.2.2.1,x.2.2.2.2.2.1,x.2.2.2.2.2.2.2) S
def Q6 (k : Nat) : Pc PG R (su Tryz.f36 53719855) := mkEnd T_ok (C k) _ c6 c0 (.own [(5,2),(10,2)]) tr (fun x S K => q6 k (kN K c0) x S)
def q5 (k : Nat) (Jnrm : Kt R T0)  (x : T0) (S : LL) : Option R :=
 idxL x.2.2.2.2.2.2.2.2.2.1 x.2.2.2.2.2.2.2.2.2.2.2.1 fun v16 => asInt .i64 (leaf v16 0) fun n17 => q6 k (fun o25 S => Jnrm (o25.1,(),o25.2.2.1,o25.2.2.2.1,o25.2.2.2.2.1,o25.2.2.2.2.2.1,o25.2.2.2.2.2.2.1,o25.2.2.2.2.2.2.2.1,o25.2.2.2.2.2.2.2.2.1,o25.2.2.2.2.2.2.2.2.2.1,o25.2.2.2.2.2.2.2.2.2.2.1,(IntKind.wrap .i64 (o25.2.2.2.2.2.2.2.2.2.2.2.1 + 1)),()) S) (x.1,(),x.2.2.1,x.2.2.2.1,x.2.2.2.2.1,x.2.2.2.2.2.1,n17,x.2.2.2.2.2.2) S
def Q5 (k : Nat) : Pc PG R (su Tryz.f36 7582511) := mkEnd T_ok (C k) _ c0 c0 (.seq (.block (.seq .auto (.piece (Q6 k).h))) .auto) ⟨⟨tr,(Q6 k).ok⟩,tr⟩ (fun x S K => q5 k (kN K c0) x S)
def q4 (k : Nat) (Jnrm : Kt R T0) (J2 : Kt R T3) (x : (N2 × U1 × N3 × N3 × Int × Int × LL × Int × Int × LL × Int × Int × Bool × U1)) (S : LL) : Option R :=
 ifB x.2.2.2.2.2.2.2.2.2.2.2.2.1 (q5 k (fun o26 S => Jnrm (o26.1,(),o26.2.2) S) (x.1,(),x.2.2.1,x.2.2.2.1,x.2.2.2.2.1,x.2.2.2.2.2.1,x.2.2.2.2.2.2.1,x.2.2.2.2.2.2.2.1,x.2.2.2.2.2.2.2.2.1,x.2.2.2.2.2.2.2.2.2.1,x.2.2.2.2.2.2.2.2.2.2.1,x.2.2.2.2.2.2.2.2.2.2.2.1,()) S) (J2 (x.1,(),x.2.2.1,x.2.2.2.1,x.2.2.2.2.1,x.2.2.2.2.2.2.1,x.2.2.2.2.2.2.2.1,x.2.2.2.2.2.2.2.2.1,()) S)
def Q4 (k : Nat) : Pc PG R (su Tryz.f36 3388207) := mkEnd T_ok (C k) _ c4 c0 (.seq (.cond .auto (.mask z0 .auto)) (.piece (Q5 k).h)) ⟨⟨tr,tr⟩,(Q5 k).ok⟩ (fun x S K => q4 k (kN K c0) (kX K 2 z0) x S)
def b1 (k : Nat) (J2 : Kt R T3) (rec : Kt R T0) (x : T0) (S : LL) : Option R :=
 q4 k (fun o27 S => rec (o27.1,(),o27.2.2) S) (fun o28 S => J2 (o28.1,(),o28.2.2) S) (x.1,(),x.2.2.1,x.2.2.2.1,x.2.2.2.2.1,x.2.2.2.2.2.1,x.2.2.2.2.2.2.1,x.2.2.2.2.2.2.2.1,x.2.2.2.2.2.2.2.2.1,x.2.2.2.2.2.2.2.2.2.1,x.2.2.2.2.2.2.2.2.2.2.1,x.2.2.2.2.2.2.2.2.2.2.2.1,(decide (x.2.2.2.2.2.2.2.2.2.2.2.1 < x.2.2.2.2.2.2.2.2.2.2.1)),()) S
def L1 (k : Nat) : Pc PG R (.loop (su Tryz.f36 1291055)) := mkLoop T_ok (C k) _ c0 k (.seq .auto (.piece (Q4 k).h)) ⟨tr,(Q4 k).ok⟩ (fun K => b1 k (kX K 2 z0))
def b4 (k : Nat) (J8 : Kt R T5) (rec : Kt R T2) (x : T2) (S : LL) : Option R :=
 ifB (decide (x.2.2.2.2.2.2.2.2.1 < x.2.2.2.2.2.2.2.1)) (idxL x.2.2.2.2.2.2.1 x.2.2.2.2.2.2.2.2.1 fun v61 => asInt .i64 (leaf v61 0) fun n62 => idxN x.2.1.2.2 n62 fun v63 => objAt S x.2.1.1 fun ty c64 => ldInt .i64 c64 (x.2.1.2.1 + v63 * 1) fun n65 => idxN x.2.1.2.2 n62 fun v66 => objAt S x.2.1.1 fun ty c67 => stO c67 (x.2.1.2.1 + v66 * 1) [(.int .i64 (IntKind.wrap .i64 (n65 - 1)))] fun c68 => setS (S.set x.2.1.1 (ty c68)) fun S => rec ((),x.2.1,x.2.2.1,x.2.2.2.1,x.2.2.2.2.1,x.2.2.2.2.2.1,x.2.2.2.2.2.2.1,x.2.2.2.2.2.2.2.1,(IntKind.wrap .i64 (x.2.2.2.2.2.2.2.2.1 + 1)),()) S) (J8 ((),x.2.1,x.2.2.1,x.2.2.2.1,x.2.2.2.2.1,x.2.2.2.2.2.1,()) S)
def L4 (k : Nat) : Pc PG R (.loop (su Tryz.f36 1307775)) := mkLoop T_ok (C k) _ m4 k (.seq .auto (.seq (.cond .auto (.mask e8 .auto)) (.seq (.block (.seq .auto (.own [(3,1),(6,1)]))) .auto))) ⟨tr,⟨tr,tr⟩,⟨tr,tr⟩,tr⟩ (fun K => b4 k (kX K 8 e8))
def q0 (k : Nat) (Jnrm : Kt R T3)  (x : T0) (S : LL) : Option R :=
 rounds (b1 k (fun o29 S => Jnrm (o29.1,(),o29.2.2) S)) k (x.1,(),x.2.2) S
def Q0 (k : Nat) : Pc PG R (su Tryz.f36 504623) := mkEnd T_ok (C k) _ c0 z0 (.block (.piece (L1 k).h)) (L1 k).ok (fun x S K => q0 k (kN K z0) x S)
def q3 (k : Nat) (Jnrm : Kt R T3)  (x : T1) (S : LL) : Option R :=
 q0 k (fun o30 S => Jnrm (o30.1,(),o30.2.2) S) (x.1,(),x.2.2.1,x.2.2.2.1,x.2.2.2.2.1,x.2.2.2.2.2.1,x.2.2.2.2.2.2.2.1,x.2.2.2.2.2.2.2.2.1,x.2.2.2.2.2.2.2.2.2.1,x.2.2.2.2.2.2.1,(x.2.2.2.2.2.2.1.length : Int),0,()) S
def Q3 (k : Nat) : Pc PG R (su Tryz.f36 242479) := mkEnd T_ok (C k) _ c2 z0 (.seq .auto (.piece (Q0 k).h)) ⟨tr,(Q0 k).ok⟩ (fun x S K => q3 k (kN K z0) x S)
def q7 (k : Nat) (Jnrm : Kt R T4)  (x : T4) (S : LL) : Option R :=
 Jnrm ((),x.2.1,x.2.2.1,x.2.2.2.1,x.2.2.2.2.1,x.2.2.2.2.2.1,(IntKind.wrap .i64 (x.2.2.2.2.2.2.1 + 1)),()) S
def Q7 (k : Nat) : Pc PG R (su Tryz.f36 201855) := mkEnd T_ok (C k) _ c7 c7 (.block .auto) tr (fun x S K => q7 k (kN K c7) x S)
def q2 (k : Nat) (Jnrm : Kt R T3)  (x : T1) (S : LL) : Option R :=
 idxN x.2.2.1.2.2 x.2.2.2.2.2.1 fun v13 => objAt S x.2.2.1.1 fun ty c14 => stO c14 (x.2.2.1.2.1 + v13 * 1) [(.int .i64 (x.2.2.2.2.2.2.1.length : Int))] fun c15 => setS (S.set x.2.2.1.1 (ty c15)) fun S => q3 k (fun o31 S => Jnrm (o31.1,(),o31.2.2) S) (x.1,(),x.2.2) S
def Q2 (k : Nat) : Pc PG R (su Tryz.f36 111407) := mkEnd T_ok (C k) _ c2 z0 (.seq (.own [(5,1)]) (.piece (Q3 k).h)) ⟨tr,(Q3 k).ok⟩ (fun x S K => q2 k (kN K z0) x S)
def b3 (k : Nat) (J6 : Kt R T4) (rec : Kt R T4) (x : T4) (S : LL) : Option R :=
 ifB (decide (x.2.2.2.2.2.2.1 < (x.2.1.2.2 : Int))) (idxN x.2.2.2.2.1.2.2 x.2.2.2.2.2.2.1 fun v42 => objAt S x.2.2.2.2.1.1 fun ty c43 => ldBool c43 (x.2.2.2.2.1.2.1 + v42 * 1) fun b44 => ifB b44 (q7 k (fun o45 S => rec ((),o45.2) S) ((),x.2) S) (idxN x.2.1.2.2 x.2.2.2.2.2.2.1 fun v46 => objAt S x.2.1.1 fun ty c47 => ldInt .i64 c47 (x.2.1.2.1 + v46 * 1) fun n48 => ifB (decide (n48 > 0)) (q7 k (fun o49 S => rec ((),o49.2) S) ((),x.2) S) (ifB (!(true == true)) (idxL [] x.2.2.2.2.2.2.1 fun v50 => asBool (leaf v50 0) fun b51 => ifB (!b51) (q7 k (fun o52 S => rec ((),o52.2) S) ((),x.2) S) (J6 ((),x.2) S)) (J6 ((),x.2) S)))) (J6 ((),x.2) S)
def L3 (k : Nat) : Pc PG R (.loop (su Tryz.f36 70783)) := mkLoop T_ok (C k) _ c7 k (.seq (.seq (.own [(8,1),(13,1)]) (.cond .auto (.mask c7 .auto))) (.piece (Q7 k).h)) ⟨⟨tr,tr,tr⟩,(Q7 k).ok⟩ (fun K => b3 k (kX K 6 c7))
def q1 (k : Nat) (Jnrm : Kt R T3)  (x : (N2 × U1 × N3 × N3 × Int × Int × LL × LL × Int × Int × Bool × U1)) (S : LL) : Option R :=
 ifB x.2.2.2.2.2.2.2.2.2.2.1 (q2 k (fun o32 S => Jnrm (o32.1,(),o32.2.2) S) (x.1,(),x.2.2.1,x.2.2.2.1,(IntKind.wrap .i64 (x.2.2.2.2.1 + 1)),x.2.2.2.2.2.1,x.2.2.2.2.2.2.1,x.2.2.2.2.2.2.2.1,x.2.2.2.2.2.2.2.2.1,x.2.2.2.2.2.2.2.2.2.1,()) S) (Jnrm (x.1,(),x.2.2.1,x.2.2.2.1,x.2.2.2.2.1,x.2.2.2.2.2.2.2.1,x.2.2.2.2.2.2.2.2.1,x.2.2.2.2.2.2.2.2.2.1,()) S)
def Q1 (k : Nat) : Pc PG R (su Tryz.f36 29487) := mkEnd T_ok (C k) _ c1 z0 (.cond (.seq .auto (.piece (Q2 k).h)) .auto) ⟨⟨tr,(Q2 k).ok⟩,tr⟩ (fun x S K => q1 k (kN K z0) x S)
def b2 (k : Nat) (J4 : Kt R (LL × U1)) (Jret : Kt R (LL × Bool × U1)) (rec : Kt R T5) (x : T5) (S : LL) : Option R :=
 ifB (decide ((x.2.2.2.2.2.1.length : Int) < x.2.2.2.1)) (rounds (b3 k (fun o53 S => ifB (o53.2.2.2.2.2.2.1 == (o53.2.1.2.2 : Int)) (Jret ([],false,()) S) (idxN o53.2.2.2.2.1.2.2 o53.2.2.2.2.2.2.1 fun v54 => objAt S o53.2.2.2.2.1.1 fun ty c55 => stO c55 (o53.2.2.2.2.1.2.1 + v54 * 1) [(.bool true)] fun c56 => setS (S.set o53.2.2.2.2.1.1 (ty c56)) fun S => app 8 o53.2.2.2.2.2.1 [(.int .i64 o53.2.2.2.2.2.2.1)] fun l57 => idxN o53.2.2.1.2.2 o53.2.2.2.2.2.2.1 fun v58 => objAt S o53.2.2.1.1 fun ty c59 => ldSl 1 c59 (o53.2.2.1.2.1 + v58 * 1) fun l60 => rounds (b4 k (fun o69 S => rec ((),o69.2) S)) k ((),o53.2.1,o53.2.2.1,o53.2.2.2.1,o53.2.2.2.2.1,l57,l60,(l60.length : Int),0,()) S))) k ((),x.2.1,x.2.2.1,x.2.2.2.1,x.2.2.2.2.1,x.2.2.2.2.2.1,0,()) S) (J4 x.2.2.2.2.2 S)
def L2 (k : Nat) : Pc PG R (.loop (su Tryz.f36 1151)) := mkLoop T_ok (C k) _ e8 k (.seq (.seq .auto (.cond .auto (.mask e4 .auto))) (.block (.seq .auto (.seq (.block (.piece (L3 k).h)) (.seq (.seq .auto (.cond (.seq .auto (.mask mr .auto)) .auto)) (.seq (.own [(3,1)]) (.seq (.own [(0,1)]) (.seq (.own [(3,1)]) (.block (.piece (L4 k).h)))))))))) ⟨⟨tr,tr,tr⟩,tr,(L3 k).ok,⟨tr,⟨tr,tr⟩,tr⟩,tr,tr,tr,(L4 k).ok⟩ (fun K => b2 k (kX K 4 e4) (kR K mr))
def b0 (k : Nat) (J0 : Kt R (N2 × U1 × N3 × N3 × Int × U1)) (rec : Kt R T3) (x : T3) (S : LL) : Option R :=
 ifB (decide (x.2.2.2.2.2.2.2.1 < x.2.2.2.2.2.2.1)) (idxL x.2.2.2.2.2.1 x.2.2.2.2.2.2.2.1 fun v11 => asSl 1 (leaf v11 0) fun l12 => ifB (true == true) (q1 k (fun o33 S => rec (o33.1,(),o33.2.2.1,o33.2.2.2.1,o33.2.2.2.2.1,o33.2.2.2.2.2.1,o33.2.2.2.2.2.2.1,(IntKind.wrap .i64 (o33.2.2.2.2.2.2.2.1 + 1)),()) S) (x.1,(),x.2.2.1,x.2.2.2.1,x.2.2.2.2.1,x.2.2.2.2.2.2.2.1,l12,x.2.2.2.2.2.1,x.2.2.2.2.2.2.1,x.2.2.2.2.2.2.2.1,true,()) S) (idxL [] x.2.2.2.2.2.2.2.1 fun v34 => asBool (leaf v34 0) fun b35 => q1 k (fun o36 S => rec (o36.1,(),o36.2.2.1,o36.2.2.2.1,o36.2.2.2.2.1,o36.2.2.2.2.2.1,o36.2.2.2.2.2.2.1,(IntKind.wrap .i64 (o36.2.2.2.2.2.2.2.1 + 1)),()) S) (x.1,(),x.2.2.1,x.2.2.2.1,x.2.2.2.2.1,x.2.2.2.2.2.2.2.1,l12,x.2.2.2.2.2.1,x.2.2.2.2.2.2.1,x.2.2.2.2.2.2.2.1,b35,()) S)) (J0 (x.1,(),x.2.2.1,x.2.2.2.1,x.2.2.2.2.1,()) S)
def L0 (k : Nat) : Pc PG R (.loop (su Tryz.f36 303)) := mkLoop T_ok (C k) _ z0 k (.seq .auto (.seq (.cond .auto (.mask e0 .auto)) (.seq (.block (.seq .auto (.seq .auto (.piece (Q1 k).h)))) .auto))) ⟨tr,⟨tr,tr⟩,⟨tr,tr,(Q1 k).ok⟩,tr⟩ (fun K => b0 k (kX K 0 e0))
def fn (k : Nat) (x : (N2 × U1 × U1)) (S : LL) (K : Kt R (LL × Bool × U1)) : Option R :=
 objAt S x.1.1 fun ty c1 => ldSl 8 c1 (x.1.2 + 0) fun l2 => ifB (decide ((l2.length : Int) = (l2.length : Int))) (mkN (l2.length : Int) 8 fun m3 => newObj S (.obj 3 (zeros m3 [(.int .i64 (0 : Int))])) fun i4 S => objAt S x.1.1 fun ty c5 => ldSl 8 c5 (x.1.2 + 0) fun l6 => ifB (decide ((l6.length : Int) = (l6.length : Int))) (mkN (l6.length : Int) 24 fun m7 => newObj S (.obj 45 (zeros m7 [.nilsl])) fun i8 S => objAt S x.1.1 fun ty c9 => ldSl 1 c9 (x.1.2 + 2) fun l10 => rounds (b0 k (fun o37 S => objAt S o37.1.1 fun ty c38 => ldSl 8 c38 (o37.1.2 + 0) fun l39 => ifB (decide ((l39.length : Int) = (l39.length : Int))) (mkN (l39.length : Int) 1 fun m40 => newObj S (.obj 4 (zeros m40 [(.bool false)])) fun i41 S => rounds (b2 k (fun o70 S => K (o70.1,true,()) S) K) k ((),o37.2.2.1,o37.2.2.2.1,o37.2.2.2.2.1,(i41,0,m40),[],()) S) none)) k (x.1,(),(i4,0,m3),(i8,0,m7),0,l10,(l10.length : Int),0,()) S) none) none
def en (k : Nat) : Ent PG R := mkFn T_ok Tryz.func36 ps rs (C k) (.seq .auto (.seq (.own [(3,1)]) (.seq (.own [(3,1)]) (.seq .auto (.seq (.seq (.own [(3,1)]) (.block (.piece (L0 k).h))) (.seq (.own [(3,1)]) (.seq .auto (.seq (.block (.piece (L2 k).h)) (.seq (.own [(0,1)]) (.mask mr .auto)))))))))) ⟨tr,tr,tr,tr,⟨tr,(L0 k).ok⟩,tr,tr,(L2 k).ok,tr,tr⟩ (fn k)
end G.steps_plan_order_nils
namespace G.steps_open
abbrev ps : Mk := sL 8 []
abbrev rs : Mk := sR (sI [])
abbrev e0 : Mk := sL 8 (nM 142 [])
abbrev e2 : Mk := sL 8 (n6 (sP (nM 135 [])))
abbrev e4 : Mk := sL 8 (n6 (sP (sX [.map,.map,.map,.map] (nM 50 (sL 8 (sI (sI (nM 81 []))))))))
abbrev e6 : Mk := n7 (sP (nM 135 []))
abbrev e8 : Mk := n7 (sP (n9 (sh (.lf (.map)) (nM 77 (sL 8 (sI (sI (nM 45 []))))))))
abbrev m0 : Mk := sL 8 (nM 26 (sL 8 (sI (sI (nM 113 [])))))
abbrev m2 : Mk := sL 8 (n6 (sP (sX [.map,.map,.map,.map] (sI (nM 49 (sL 8 (sI (sI (n6 (sL 1 (sI (sI (nM 72 [])))))))))))))
abbrev m3 : Mk := n7 (sP (nM 87 (sL 8 (sI (sI (nM 45 []))))))
abbrev m4 : Mk := n7 (sP (n9 (sh (.lf (.map)) (nM 77 (sL 8 (sI (sI (n5 (sL 1 (sI (sI (nM 37 []))))))))))))
abbrev mr : Mk := n2 (sR (sI (nM 139 [])))
abbrev T5 := LV × Int × U1
abbrev T4 := N2 × LL × Int × Int × U1
abbrev T3 := LL × LL × Int × Int × U1
abbrev T2 := N2 × Nat × LL × Int × Int × LL × Int × Int × U1
abbrev T1 := LL × N2 × (Nat × Nat × Nat × Nat × U1) × LL × Int × Int × U1
abbrev T0 := LL × N2 × (Nat × Nat × Nat × Nat × U1) × Int × LL × Int × Int × LL × Int × Int × U1
def C (k : Nat) : List (Ent PG R) := [steps_plan_order_nils.en k,steps_checkRule.en k,steps_tangleOf.en k,steps_tangle_clashes.en k,⟨51,H.SortedI.h k,H.SortedI.ok k⟩,maps_Keys_map_int_bool_int_bool.en k]
def b4 (k : Nat) (J8 : Kt R (N2 × Nat × LL × Int × Int × U1)) (rec : Kt R T2) (x : T2) (S : LL) : Option R :=
 ifB (decide (x.2.2.2.2.2.2.2.1 < x.2.2.2.2.2.2.1)) (idxL x.2.2.2.2.2.1 x.2.2.2.2.2.2.2.1 fun v54 => asStr (leaf v54 0) fun s55 => objAt S x.1.1 fun ty c56 => ldRaw c56 (x.1.2 + 1) fun v57 => asMap v57 fun i58 => mpAt S i58 .str fun m59 => asInt .i64 ((mapGet m59 (.str s55)).getD (.int .i64 (0 : Int))) fun n60 => ifB (mapGet m59 (.str s55)).isSome (mpAt S x.2.1 (.int .i64) fun m61 => setS (S.set x.2.1 (.mp (.int .i64) (mapPut m61 (.int .i64 n60) (.bool true)))) fun S => rec (x.1,x.2.1,x.2.2.1,x.2.2.2.1,x.2.2.2.2.1,x.2.2.2.2.2.1,x.2.2.2.2.2.2.1,(IntKind.wrap .i64 (x.2.2.2.2.2.2.2.1 + 1)),()) S) (rec (x.1,x.2.1,x.2.2.1,x.2.2.2.1,x.2.2.2.2.1,x.2.2.2.2.2.1,x.2.2.2.2.2.2.1,(IntKind.wrap .i64 (x.2.2.2.2.2.2.2.1 + 1)),()) S)) (J8 (x.1,x.2.1,x.2.2.1,x.2.2.2.1,x.2.2.2.2.1,()) S)
def L4 (k : Nat) : Pc PG R (.loop (su Tryz.f24 1232063)) := mkLoop T_ok (C k) _ m4 k (.seq .auto (.seq (.cond .auto (.mask e8 .auto)) (.seq (.block (.seq .auto (.seq (.own [(3,3),(6,1)]) (.seq .auto (.cond .auto .auto))))) .auto))) ⟨tr,⟨tr,tr⟩,⟨tr,tr,tr,tr,tr⟩,tr⟩ (fun K => b4 k (kX K 8 e8))
def b2 (k : Nat) (J4 : Kt R T1) (Jret : Kt R T5) (rec : Kt R T0) (x : T0) (S : LL) : Option R :=
 ifB (decide (x.2.2.2.2.2.2.2.2.2.1 < x.2.2.2.2.2.2.2.2.1)) (idxL x.2.2.2.2.2.2.2.1 x.2.2.2.2.2.2.2.2.2.1 fun v28 => asStr (leaf v28 0) fun s29 => objAt S x.2.1.1 fun ty c30 => ldRaw c30 (x.2.1.2 + 1) fun v31 => asMap v31 fun i32 => mpAt S i32 .str fun m33 => asInt .i64 ((mapGet m33 (.str s29)).getD (.int .i64 (0 : Int))) fun n34 => ifB (mapGet m33 (.str s29)).isSome (Jret (.nilp,7,()) S) (objAt S x.2.1.1 fun ty c35 => ldRaw c35 (x.2.1.2 + 1) fun v36 => asMap v36 fun i37 => mpAt S i37 .str fun m38 => setS (S.set i37 (.mp .str (mapPut m38 (.str s29) (.int .i64 x.2.2.2.1)))) fun S => steps_tangle_clashes.fn k (x.2.2.1,s29,()) S fun r39 S => ifB r39.1 (Jret (.nilp,12,()) S) (rec (x.1,x.2.1,x.2.2.1,x.2.2.2.1,x.2.2.2.2.1,x.2.2.2.2.2.1,x.2.2.2.2.2.2.1,x.2.2.2.2.2.2.2.1,x.2.2.2.2.2.2.2.2.1,(IntKind.wrap .i64 (x.2.2.2.2.2.2.2.2.2.1 + 1)),()) S))) (J4 (x.1,x.2.1,x.2.2.1,x.2.2.2.2.1,x.2.2.2.2.2.1,x.2.2.2.2.2.2.1,()) S)
def L2 (k : Nat) : Pc PG R (.loop (su Tryz.f24 157279)) := mkLoop T_ok (C k) _ m2 k (.seq .auto (.seq (.cond .auto (.mask e4 .auto)) (.seq (.block (.seq .auto (.seq (.seq (.own [(3,3),(6,1)]) (.seq .auto (.cond (.seq .auto (.mask mr .auto)) .auto))) (.seq (.own [(3,3)]) (.seq .auto (.cond (.seq .auto (.mask mr .auto)) .auto)))))) .auto))) ⟨tr,⟨tr,tr⟩,⟨tr,⟨tr,tr,⟨tr,tr⟩,tr⟩,tr,tr,⟨tr,tr⟩,tr⟩,tr⟩ (fun K => b2 k (kX K 4 e4) (kR K mr))
def b3 (k : Nat) (J6 : Kt R (N2 × U1)) (rec : Kt R T4) (x : T4) (S : LL) : Option R :=
 ifB (decide (x.2.2.2.1 < x.2.2.1)) (idxL x.2.1 x.2.2.2.1 fun v43 => mat 8 v43 fun c44 => asStr (c44.getD 0 .any) fun s45 => asStr (c44.getD 1 .any) fun s46 => asSl 1 (c44.getD 2 .any) fun l47 => asSl 2 (c44.getD 3 .any) fun l48 => asSl 1 (c44.getD 4 .any) fun l49 => asSl 2 (c44.getD 5 .any) fun l50 => asInt .i64 (c44.getD 6 .any) fun n51 => asSl 1 (c44.getD 7 .any) fun l52 => newObj S (.mp (.int .i64) []) fun i53 S => rounds (b4 k (fun o62 S => ifB (Nat.beq o62.1.1 o62.1.1) (objAt S o62.1.1 fun ty c63 => asOwn 45 1 (c63.getD (o62.1.2 + 2) .any) fun l64 => setS (S.set o62.1.1 (ty (c63.set (o62.1.2 + 2) (.sl 1 l64)))) fun S => maps_Keys_map_int_bool_int_bool.fn k (o62.2.1,()) (S.set o62.1.1 .any) fun r65 S' => hidR o62.1.1 (S.getD o62.1.1 .any) S' fun S => H.SortedI.fn k r65 (S.set o62.1.1 .any) fun r66 S' => hidR o62.1.1 (S.getD o62.1.1 .any) S' fun S => app 24 l64 [(.sl 1 r66.1)] fun l67 => objAt S o62.1.1 fun ty c68 => stO c68 (o62.1.2 + 2) [(.own 45 1 l67)] fun c69 => setS (S.set o62.1.1 (ty c69)) fun S => rec (o62.1,o62.2.2.1,o62.2.2.2.1,(IntKind.wrap .i64 (o62.2.2.2.2.1 + 1)),()) S) none)) k (x.1,i53,x.2.1,x.2.2.1,x.2.2.2.1,l52,(l52.length : Int),0,()) S) (J6 (x.1,()) S)
def L3 (k : Nat) : Pc PG R (.loop (su Tryz.f24 1215)) := mkLoop T_ok (C k) _ m3 k (.seq .auto (.seq (.cond .auto (.mask e6 .auto)) (.seq (.block (.seq .auto (.seq .auto (.seq (.seq .auto (.block (.piece (L4 k).h))) (.hide 7 [(4,2),(12,2)] [0,1,2,3,5,4,6,7,8,9,10,11,12]))))) .auto))) ⟨tr,⟨tr,tr⟩,⟨tr,tr,⟨tr,(L4 k).ok⟩,(hide_an (by kernel_rfl))⟩,tr⟩ (fun K => b3 k (kX K 6 e6))
def b1 (k : Nat) (J2 : Kt R (LL × N2 × U1)) (Jret : Kt R T5) (rec : Kt R T1) (x : T1) (S : LL) : Option R :=
 ifB (decide (x.2.2.2.2.2.1 < x.2.2.2.2.1)) (idxL x.2.2.2.1 x.2.2.2.2.2.1 fun v18 => mat 8 v18 fun c19 => asStr (c19.getD 0 .any) fun s20 => asStr (c19.getD 1 .any) fun s21 => asSl 1 (c19.getD 2 .any) fun l22 => asSl 2 (c19.getD 3 .any) fun l23 => asSl 1 (c19.getD 4 .any) fun l24 => asSl 2 (c19.getD 5 .any) fun l25 => asInt .i64 (c19.getD 6 .any) fun n26 => asSl 1 (c19.getD 7 .any) fun l27 => rounds (b2 k (fun o40 S => rec (o40.1,o40.2.1,o40.2.2.1,o40.2.2.2.1,o40.2.2.2.2.1,(IntKind.wrap .i64 (o40.2.2.2.2.2.1 + 1)),()) S) Jret) k (x.1,x.2.1,x.2.2.1,x.2.2.2.2.2.1,x.2.2.2.1,x.2.2.2.2.1,x.2.2.2.2.2.1,l24,(l24.length : Int),0,()) S) (J2 (x.1,x.2.1,()) S)
def L1 (k : Nat) : Pc PG R (.loop (su Tryz.f24 607)) := mkLoop T_ok (C k) _ e4 k (.seq .auto (.seq (.cond .auto (.mask e2 .auto)) (.seq (.block (.seq .auto (.seq .auto (.block (.piece (L2 k).h))))) .auto))) ⟨tr,⟨tr,tr⟩,⟨tr,tr,(L2 k).ok⟩,tr⟩ (fun K => b1 k (kX K 2 e2) (kR K mr))
def b0 (k : Nat) (J0 : Kt R (LL × U1)) (Jret : Kt R T5) (rec : Kt R T3) (x : T3) (S : LL) : Option R :=
 ifB (decide (x.2.2.2.1 < x.2.2.1)) (idxL x.2.1 x.2.2.2.1 fun v1 => mat 8 v1 fun c2 => asStr (c2.getD 0 .any) fun s3 => asStr (c2.getD 1 .any) fun s4 => asSl 1 (c2.getD 2 .any) fun l5 => asSl 2 (c2.getD 3 .any) fun l6 => asSl 1 (c2.getD 4 .any) fun l7 => asSl 2 (c2.getD 5 .any) fun l8 => asInt .i64 (c2.getD 6 .any) fun n9 => asSl 1 (c2.getD 7 .any) fun l10 => steps_checkRule.fn k ((s3,s4,l5,l6,l7,l8,n9,l10,()),()) S fun r11 S => ifB (r11.1 != 0) (Jret (.nilp,r11) S) (ifB (decide (x.2.2.2.1 > 0)) (idxL x.1 (IntKind.wrap .i64 (x.2.2.2.1 - 1)) fun v12 => asStr (leaf v12 0) fun s13 => ifB (strLt s3 s13 || strEq s3 s13) (Jret (.nilp,8,()) S) (rec (x.1,x.2.1,x.2.2.1,(IntKind.wrap .i64 (x.2.2.2.1 + 1)),()) S)) (rec (x.1,x.2.1,x.2.2.1,(IntKind.wrap .i64 (x.2.2.2.1 + 1)),()) S))) (J0 (x.1,()) S)
def L0 (k : Nat) : Pc PG R (.loop (su Tryz.f24 75)) := mkLoop T_ok (C k) _ m0 k (.seq .auto (.seq (.cond .auto (.mask e0 .auto)) (.seq (.block (.seq .auto (.seq (.seq .auto (.seq .auto (.cond (.seq .auto (.mask mr .auto)) .auto))) (.seq (.drawn [] [0,1,2,3,4,5,6,7,8,9,10,11,12]) (.cond (.seq .auto (.mask mr .auto)) .auto))))) .auto))) ⟨tr,⟨tr,tr⟩,⟨tr,⟨tr,tr,⟨tr,tr⟩,tr⟩,(drawn_an (by kernel_rfl)),⟨tr,tr⟩,tr⟩,tr⟩ (fun K => b0 k (kX K 0 e0) (kR K mr))
def fn (k : Nat) (x : (LL × U1)) (S : LL) (K : Kt R T5) : Option R :=
 ifB (decide ((x.1.length : Int) > 500)) (K (.nilp,2,()) S) (rounds (b0 k (fun o14 S => newObj S (.mp .str []) fun i15 S => newObj S (.obj 66 [(.sl 8 o14.1),(.map i15),.nilsl]) fun i16 S => steps_tangleOf.fn k o14 S fun r17 S => rounds (b1 k (fun o42 S => rounds (b3 k (fun o70 S => steps_plan_order_nils.fn k (o70.1,(),()) S fun r71 S => ifB (!r71.2.1) (K (.nilp,17,()) S) (K ((.ptr o70.1.1 o70.1.2),0,()) S))) k (o42.2.1,o42.1,(o42.1.length : Int),0,()) S) K) k (o14.1,(i16,0),r17.1,o14.1,(o14.1.length : Int),0,()) S) K) k (x.1,x.1,(x.1.length : Int),0,()) S)
def en (k : Nat) : Ent PG R := mkFn T_ok Tryz.func24 ps rs (C k) (.seq .auto (.seq (.seq .auto (.cond (.seq .auto (.mask mr .auto)) .auto)) (.seq (.seq .auto (.block (.piece (L0 k).h))) (.seq (.own [(3,1)]) (.seq .auto (.seq (.seq .auto (.block (.piece (L1 k).h))) (.seq (.seq .auto (.block (.piece (L3 k).h))) (.seq (.seq (.own [(2,1)]) (.seq .auto (.cond (.seq .auto (.mask mr .auto)) .auto))) (.seq .auto (.mask mr .auto)))))))))) ⟨tr,⟨tr,⟨tr,tr⟩,tr⟩,⟨tr,(L0 k).ok⟩,tr,tr,⟨tr,(L1 k).ok⟩,⟨tr,(L3 k).ok⟩,⟨tr,tr,⟨tr,tr⟩,tr⟩,tr,tr⟩ (fn k)
end G.steps_open
namespace G.strings_Compare
abbrev ps : Mk := sS (sS [])
abbrev rs : Mk := sI []
abbrev mr : Mk := n4 (sI (n3 []))
def C (k : Nat) : List (Ent PG R) := [⟨92,H.CompareString.h k,H.CompareString.ok k⟩]
def fn (k : Nat) (x : (BA × BA × U1)) (S : LL) (K : Kt R (Int × U1)) : Option R :=
 H.CompareString.fn k x S K
def en (k : Nat) : Ent PG R := mkFn T_ok Tryz.func58 ps rs (C k) (.seq .auto (.seq .auto (.mask mr .auto))) ⟨tr,tr,tr⟩ (fn k)
end G.strings_Compare
namespace G.steps_plan_find_1
abbrev ps : Mk := sA [.str,.str,.sl 1,.sl 2,.sl 1,.sl 2,jI,.sl 1] (sS [])
abbrev rs : Mk := sI []
abbrev mr : Mk := n4 (sI (n4 []))
def C (k : Nat) : List (Ent PG R) := [strings_Compare.en k]
def fn (k : Nat) (x : ((BA × BA × LL × LL × LL × LL × Int × LL × U1) × BA × U1)) (S : LL) (K : Kt R (Int × U1)) : Option R :=
 strings_Compare.fn k (x.1.1,x.2) S K
def en (k : Nat) : Ent PG R := mkFn T_ok Tryz.func82 ps rs (C k) (.seq .auto (.seq .auto (.mask mr .auto))) ⟨tr,tr,tr⟩ (fn k)
end G.steps_plan_find_1
namespace G.slices_BinarySearchFunc_s_api_Rule_api_Rule_string_at_steps_plan_find_1
abbrev ps : Mk := sL 8 (sS (sh (.fn 82 []) []))
abbrev rs : Mk := sI (sB [])
abbrev e0 : Mk := sL 8 (sS (sh (.fn 82 []) (n5 (sI (sI (nM 39 []))))))
abbrev m0 : Mk := sL 8 (sS (sh (.fn 82 []) (n5 (sI (sI (sI (nM 38 [])))))))
abbrev mr : Mk := n6 (sI (sB (nM 41 [])))
abbrev T0 := LL × BA × (U1) × Int × Int × Int × U1
def C (k : Nat) : List (Ent PG R) := [steps_plan_find_1.en k]
def b0 (k : Nat) (J0 : Kt R (LL × BA × (U1) × Int × Int × U1)) (rec : Kt R T0) (x : T0) (S : LL) : Option R :=
 ifB (decide (x.2.2.2.2.1 < x.2.2.2.2.2.1)) (ifB (decide ((1 : Int) < 0)) (none) (idxL x.1 (IntKind.wrap .i64 (shI .shr .u64 (IntKind.wrap .u64 (IntKind.wrap .i64 (x.2.2.2.2.1 + x.2.2.2.2.2.1))) (1 : Int))) fun v1 => mat 8 v1 fun c2 => asStr (c2.getD 0 .any) fun s3 => asStr (c2.getD 1 .any) fun s4 => asSl 1 (c2.getD 2 .any) fun l5 => asSl 2 (c2.getD 3 .any) fun l6 => asSl 1 (c2.getD 4 .any) fun l7 => asSl 2 (c2.getD 5 .any) fun l8 => asInt .i64 (c2.getD 6 .any) fun n9 => asSl 1 (c2.getD 7 .any) fun l10 => steps_plan_find_1.fn k ((s3,s4,l5,l6,l7,l8,n9,l10,()),x.2.1,()) S fun r11 S => ifB (decide (r11.1 < 0)) (rec (x.1,x.2.1,(()),x.2.2.2.1,(IntKind.wrap .i64 ((IntKind.wrap .i64 (shI .shr .u64 (IntKind.wrap .u64 (IntKind.wrap .i64 (x.2.2.2.2.1 + x.2.2.2.2.2.1))) (1 : Int))) + 1)),x.2.2.2.2.2) S) (rec (x.1,x.2.1,(()),x.2.2.2.1,x.2.2.2.2.1,(IntKind.wrap .i64 (shI .shr .u64 (IntKind.wrap .u64 (IntKind.wrap .i64 (x.2.2.2.2.1 + x.2.2.2.2.2.1))) (1 : Int))),()) S))) (J0 (x.1,x.2.1,(()),x.2.2.2.1,x.2.2.2.2.1,()) S)
def L0 (k : Nat) : Pc PG R (.loop (su Tryz.f81 71)) := mkLoop T_ok (C k) _ m0 k (.seq (.seq .auto (.cond .auto (.mask e0 .auto))) (.block (.seq .auto (.seq .auto (.cond .auto .auto))))) ⟨⟨tr,tr,tr⟩,tr,tr,tr,tr⟩ (fun K => b0 k (kX K 0 e0))
def fn (k : Nat) (x : (LL × BA × (U1) × U1)) (S : LL) (K : Kt R (Int × Bool × U1)) : Option R :=
 rounds (b0 k (fun o12 S => ifB (decide (o12.2.2.2.2.1 < o12.2.2.2.1)) (idxL o12.1 o12.2.2.2.2.1 fun v13 => mat 8 v13 fun c14 => asStr (c14.getD 0 .any) fun s15 => asStr (c14.getD 1 .any) fun s16 => asSl 1 (c14.getD 2 .any) fun l17 => asSl 2 (c14.getD 3 .any) fun l18 => asSl 1 (c14.getD 4 .any) fun l19 => asSl 2 (c14.getD 5 .any) fun l20 => asInt .i64 (c14.getD 6 .any) fun n21 => asSl 1 (c14.getD 7 .any) fun l22 => steps_plan_find_1.fn k ((s15,s16,l17,l18,l19,l20,n21,l22,()),o12.2.1,()) S fun r23 S => K (o12.2.2.2.2.1,(r23.1 == 0),()) S) (K (o12.2.2.2.2.1,false,()) S))) k (x.1,x.2.1,(()),(x.1.length : Int),0,(x.1.length : Int),()) S
def en (k : Nat) : Ent PG R := mkFn T_ok Tryz.func81 ps rs (C k) (.seq .auto (.seq .auto (.seq .auto (.seq (.block (.piece (L0 k).h)) (.seq .auto (.mask mr .auto)))))) ⟨tr,tr,tr,(L0 k).ok,tr,tr⟩ (fn k)
end G.slices_BinarySearchFunc_s_api_Rule_api_Rule_string_at_steps_plan_find_1
namespace G.steps_plan_find
abbrev ps : Mk := sP (sS [])
abbrev rs : Mk := sI []
abbrev mr : Mk := n4 (sI (nM 14 []))
def C (k : Nat) : List (Ent PG R) := [slices_BinarySearchFunc_s_api_Rule_api_Rule_string_at_steps_plan_find_1.en k]
def fn (k : Nat) (x : (N2 × BA × U1)) (S : LL) (K : Kt R (Int × U1)) : Option R :=
 objAt S x.1.1 fun ty c1 => ldSl 8 c1 (x.1.2 + 0) fun l2 => slices_BinarySearchFunc_s_api_Rule_api_Rule_string_at_steps_plan_find_1.fn k (l2,x.2.1,(()),()) S fun r3 S => ifB (!r3.2.1) (K (-1,()) S) (K (r3.1,()) S)
def en (k : Nat) : Ent PG R := mkFn T_ok Tryz.func53 ps rs (C k) (.seq .auto (.seq (.own [(3,1),(6,1)]) (.seq (.seq .auto (.cond (.seq .auto (.mask mr .auto)) .auto)) (.seq .auto (.mask mr .auto))))) ⟨tr,tr,⟨tr,⟨tr,tr⟩,tr⟩,tr,tr⟩ (fn k)
end G.steps_plan_find
namespace G.steps_plan_order_osl
abbrev ps : Mk := sP (sQ 1 [])
abbrev rs : Mk := sO 3 1 (sB [])
abbrev c0 : Mk := sP (sQ 1 (n4 (sQ 1 (sQ 1 (sI (sI (nM 23 (sL 1 (sI (sI (nM 19 (sL 1 (sI (sI (nM 83 [])))))))))))))))
abbrev c1 : Mk := sP (sQ 1 (n4 (sQ 1 (sQ 1 (sI (sI (sL 1 (nM 22 (sL 1 (sI (sI (nM 11 (sB (nM 93 []))))))))))))))
abbrev c2 : Mk := sP (sQ 1 (n4 (sQ 1 (sQ 1 (sI (sI (sL 1 (nM 22 (sL 1 (sI (sI (nM 105 []))))))))))))
abbrev c4 : Mk := sP (sQ 1 (n4 (sQ 1 (sQ 1 (sI (sI (nM 23 (sL 1 (sI (sI (nM 19 (sL 1 (sI (sI (sB (nM 82 []))))))))))))))))
abbrev c6 : Mk := sP (sQ 1 (n4 (sQ 1 (sQ 1 (sI (sI (n2 (sI (nM 20 (sL 1 (sI (sI (nM 19 (sL 1 (sI (sI (nM 83 [])))))))))))))))))
abbrev c7 : Mk := n1 (sQ 1 (n4 (sQ 1 (sQ 1 (sI (n4 (sQ 1 (sO 3 1 (sI (nM 125 []))))))))))
abbrev z0 : Mk := sP (sQ 1 (n4 (sQ 1 (sQ 1 (sI (nM 24 (sL 1 (sI (sI (nM 105 []))))))))))
abbrev e0 : Mk := sP (sQ 1 (n4 (sQ 1 (sQ 1 (sI (nM 132 []))))))
abbrev e4 : Mk := nM 14 (sO 3 1 (nM 126 []))
abbrev e8 : Mk := n1 (sQ 1 (n4 (sQ 1 (sQ 1 (sI (n4 (sQ 1 (sO 3 1 (nM 126 [])))))))))
abbrev m4 : Mk := n1 (sQ 1 (n4 (sQ 1 (sQ 1 (sI (n4 (sQ 1 (sO 3 1 (nM 112 (sL 1 (sI (sI (nM 11 [])))))))))))))
abbrev mr : Mk := n4 (sO 3 1 (sB (nM 135 [])))
abbrev T5 := N3 × N3 × N3 × Int × N3 × LL × U1
abbrev T4 := N3 × N3 × N3 × Int × N3 × LL × Int × U1
abbrev T3 := N2 × N3 × N3 × N3 × Int × LL × Int × Int × U1
abbrev T2 := N3 × N3 × N3 × Int × N3 × LL × LL × Int × Int × U1
abbrev T1 := N2 × N3 × N3 × N3 × Int × Int × LL × LL × Int × Int × U1
abbrev T0 := N2 × N3 × N3 × N3 × Int × Int × LL × Int × Int × LL × Int × Int × U1
def C (k : Nat) : List (Ent PG R) := []
def q6 (k : Nat) (Jnrm : Kt R T0)  (x : (N2 × N3 × N3 × N3 × Int × Int × Int × LL × Int × Int × LL × Int × Int × U1)) (S : LL) : Option R :=
 idxN x.2.2.2.1.2.2 x.2.2.2.2.2.2.1 fun v18 => objAt S x.2.2.2.1.1 fun ty c19 => asOwn 3 1 (c19.getD (x.2.2.2.1.2.1 + v18 * 1) .any) fun l20 => setS (S.set x.2.2.2.1.1 (ty (c19.set (x.2.2.2.1.2.1 + v18 * 1) (.sl 1 l20)))) fun S => app 8 l20 [(.int .i64 x.2.2.2.2.2.1)] fun l21 => idxN x.2.2.2.1.2.2 x.2.2.2.2.2.2.1 fun v22 => objAt S x.2.2.2.1.1 fun ty c23 => stO c23 (x.2.2.2.1.2.1 + v22 * 1) [(.own 3 1 l21)] fun c24 => setS (S.set x.2.2.2.1.1 (ty c24)) fun S => Jnrm (x.1,x.2.1,x.2.2.1,x.2.2.2.1,x.2.2.2.2.1,x.2.2.2.2.2.1,x.2.2.2.2.2.2.2) S
def Q6 (k : Nat) : Pc PG R (su Tryz.f36 53719855) := mkEnd T_ok (C k) _ c6 c0 (.own [(5,2),(10,2)]) tr (fun x S K => q6 k (kN K c0) x S)
def q5 (k : Nat) (Jnrm : Kt R T0)  (x : T0) (S : LL) : Option R :=
 idxL x.2.2.2.2.2.2.2.2.2.1 x.2.2.2.2.2.2.2.2.2.2.2.1 fun v16 => asInt .i64 (leaf v16 0) fun n17 => q6 k (fun o25 S => Jnrm (o25.1,o25.2.1,o25.2.2.1,o25.2.2.2.1,o25.2.2.2.2.1,o25.2.2.2.2.2.1,o25.2.2.2.2.2.2.1,o25.2.2.2.2.2.2.2.1,o25.2.2.2.2.2.2.2.2.1,o25.2.2.2.2.2.2.2.2.2.1,o25.2.2.2.2.2.2.2.2.2.2.1,(IntKind.wrap .i64 (o25.2.2.2.2.2.2.2.2.2.2.2.1 + 1)),()) S) (x.1,x.2.1,x.2.2.1,x.2.2.2.1,x.2.2.2.2.1,x.2.2.2.2.2.1,n17,x.2.2.2.2.2.2) S
def Q5 (k : Nat) : Pc PG R (su Tryz.f36 7582511) := mkEnd T_ok (C k) _ c0 c0 (.seq (.block (.seq .auto (.piece (Q6 k).h))) .auto) ⟨⟨tr,(Q6 k).ok⟩,tr⟩ (fun x S K => q5 k (kN K c0) x S)
def q4 (k : Nat) (Jnrm : Kt R T0) (J2 : Kt R T3) (x : (N2 × N3 × N3 × N3 × Int × Int × LL × Int × Int × LL × Int × Int × Bool × U1)) (S : LL) : Option R :=
 ifB x.2.2.2.2.2.2.2.2.2.2.2.2.1 (q5 k Jnrm (x.1,x.2.1,x.2.2.1,x.2.2.2.1,x.2.2.2.2.1,x.2.2.2.2.2.1,x.2.2.2.2.2.2.1,x.2.2.2.2.2.2.2.1,x.2.2.2.2.2.2.2.2.1,x.2.2.2.2.2.2.2.2.2.1,x.2.2.2.2.2.2.2.2.2.2.1,x.2.2.2.2.2.2.2.2.2.2.2.1,()) S) (J2 (x.1,x.2.1,x.2.2.1,x.2.2.2.1,x.2.2.2.2.1,x.2.2.2.2.2.2.1,x.2.2.2.2.2.2.2.1,x.2.2.2.2.2.2.2.2.1,()) S)
def Q4 (k : Nat) : Pc PG R (su Tryz.f36 3388207) := mkEnd T_ok (C k) _ c4 c0 (.seq (.cond .auto (.mask z0 .auto)) (.piece (Q5 k).h)) ⟨⟨tr,tr⟩,(Q5 k).ok⟩ (fun x S K => q4 k (kN K c0) (kX K 2 z0) x S)
def b1 (k : Nat) (J2 : Kt R T3) (rec : Kt R T0) (x : T0) (S : LL) : Option R :=
 q4 k rec J2 (x.1,x.2.1,x.2.2.1,x.2.2.2.1,x.2.2.2.2.1,x.2.2.2.2.2.1,x.2.2.2.2.2.2.1,x.2.2.2.2.2.2.2.1,x.2.2.2.2.2.2.2.2.1,x.2.2.2.2.2.2.2.2.2.1,x.2.2.2.2.2.2.2.2.2.2.1,x.2.2.2.2.2.2.2.2.2.2.2.1,(decide (x.2.2.2.2.2.2.2.2.2.2.2.1 < x.2.2.2.2.2.2.2.2.2.2.1)),()) S
def L1 (k : Nat) : Pc PG R (.loop (su Tryz.f36 1291055)) := mkLoop T_ok (C k) _ c0 k (.seq .auto (.piece (Q4 k).h)) ⟨tr,(Q4 k).ok⟩ (fun K => b1 k (kX K 2 z0))
def b4 (k : Nat) (J8 : Kt R T5) (rec : Kt R T2) (x : T2) (S : LL) : Option R :=
 ifB (decide (x.2.2.2.2.2.2.2.2.1 < x.2.2.2.2.2.2.2.1)) (idxL x.2.2.2.2.2.2.1 x.2.2.2.2.2.2.2.2.1 fun v63 => asInt .i64 (leaf v63 0) fun n64 => idxN x.2.1.2.2 n64 fun v65 => objAt S x.2.1.1 fun ty c66 => ldInt .i64 c66 (x.2.1.2.1 + v65 * 1) fun n67 => idxN x.2.1.2.2 n64 fun v68 => objAt S x.2.1.1 fun ty c69 => stO c69 (x.2.1.2.1 + v68 * 1) [(.int .i64 (IntKind.wrap .i64 (n67 - 1)))] fun c70 => setS (S.set x.2.1.1 (ty c70)) fun S => rec (x.1,x.2.1,x.2.2.1,x.2.2.2.1,x.2.2.2.2.1,x.2.2.2.2.2.1,x.2.2.2.2.2.2.1,x.2.2.2.2.2.2.2.1,(IntKind.wrap .i64 (x.2.2.2.2.2.2.2.2.1 + 1)),()) S) (J8 (x.1,x.2.1,x.2.2.1,x.2.2.2.1,x.2.2.2.2.1,x.2.2.2.2.2.1,()) S)
def L4 (k : Nat) : Pc PG R (.loop (su Tryz.f36 1307775)) := mkLoop T_ok (C k) _ m4 k (.seq .auto (.seq (.cond .auto (.mask e8 .auto)) (.seq (.block (.seq .auto (.own [(3,1),(6,1)]))) .auto))) ⟨tr,⟨tr,tr⟩,⟨tr,tr⟩,tr⟩ (fun K => b4 k (kX K 8 e8))
def q0 (k : Nat) (Jnrm : Kt R T3)  (x : T0) (S : LL) : Option R :=
 rounds (b1 k Jnrm) k x S
def Q0 (k : Nat) : Pc PG R (su Tryz.f36 504623) := mkEnd T_ok (C k) _ c0 z0 (.block (.piece (L1 k).h)) (L1 k).ok (fun x S K => q0 k (kN K z0) x S)
def q3 (k : Nat) (Jnrm : Kt R T3)  (x : T1) (S : LL) : Option R :=
 q0 k Jnrm (x.1,x.2.1,x.2.2.1,x.2.2.2.1,x.2.2.2.2.1,x.2.2.2.2.2.1,x.2.2.2.2.2.2.2.1,x.2.2.2.2.2.2.2.2.1,x.2.2.2.2.2.2.2.2.2.1,x.2.2.2.2.2.2.1,(x.2.2.2.2.2.2.1.length : Int),0,()) S
def Q3 (k : Nat) : Pc PG R (su Tryz.f36 242479) := mkEnd T_ok (C k) _ c2 z0 (.seq .auto (.piece (Q0 k).h)) ⟨tr,(Q0 k).ok⟩ (fun x S K => q3 k (kN K z0) x S)
def q7 (k : Nat) (Jnrm : Kt R T4)  (x : T4) (S : LL) : Option R :=
 Jnrm (x.1,x.2.1,x.2.2.1,x.2.2.2.1,x.2.2.2.2.1,x.2.2.2.2.2.1,(IntKind.wrap .i64 (x.2.2.2.2.2.2.1 + 1)),()) S
def Q7 (k : Nat) : Pc PG R (su Tryz.f36 201855) := mkEnd T_ok (C k) _ c7 c7 (.block .auto) tr (fun x S K => q7 k (kN K c7) x S)
def q2 (k : Nat) (Jnrm : Kt R T3)  (x : T1) (S : LL) : Option R :=
 idxN x.2.2.1.2.2 x.2.2.2.2.2.1 fun v13 => objAt S x.2.2.1.1 fun ty c14 => stO c14 (x.2.2.1.2.1 + v13 * 1) [(.int .i64 (x.2.2.2.2.2.2.1.length : Int))] fun c15 => setS (S.set x.2.2.1.1 (ty c15)) fun S => q3 k Jnrm x S
def Q2 (k : Nat) : Pc PG R (su Tryz.f36 111407) := mkEnd T_ok (C k) _ c2 z0 (.seq (.own [(5,1)]) (.piece (Q3 k).h)) ⟨tr,(Q3 k).ok⟩ (fun x S K => q2 k (kN K z0) x S)
def b3 (k : Nat) (J6 : Kt R T4) (rec : Kt R T4) (x : T4) (S : LL) : Option R :=
 ifB (decide (x.2.2.2.2.2.2.1 < (x.2.1.2.2 : Int))) (idxN x.2.2.2.2.1.2.2 x.2.2.2.2.2.2.1 fun v43 => objAt S x.2.2.2.2.1.1 fun ty c44 => ldBool c44 (x.2.2.2.2.1.2.1 + v43 * 1) fun b45 => ifB b45 (q7 k rec x S) (idxN x.2.1.2.2 x.2.2.2.2.2.2.1 fun v47 => objAt S x.2.1.1 fun ty c48 => ldInt .i64 c48 (x.2.1.2.1 + v47 * 1) fun n49 => ifB (decide (n49 > 0)) (q7 k rec x S) (ifB (!(false == true)) (idxN x.1.2.2 x.2.2.2.2.2.2.1 fun v51 => objAt S x.1.1 fun ty c52 => ldBool c52 (x.1.2.1 + v51 * 1) fun b53 => ifB (!b53) (q7 k rec x S) (J6 x S)) (J6 x S)))) (J6 x S)
def L3 (k : Nat) : Pc PG R (.loop (su Tryz.f36 70783)) := mkLoop T_ok (C k) _ c7 k (.seq (.seq (.own [(8,1),(13,1),(23,1)]) (.cond .auto (.mask c7 .auto))) (.piece (Q7 k).h)) ⟨⟨tr,tr,tr⟩,(Q7 k).ok⟩ (fun K => b3 k (kX K 6 c7))
def q1 (k : Nat) (Jnrm : Kt R T3)  (x : (N2 × N3 × N3 × N3 × Int × Int × LL × LL × Int × Int × Bool × U1)) (S : LL) : Option R :=
 ifB x.2.2.2.2.2.2.2.2.2.2.1 (q2 k Jnrm (x.1,x.2.1,x.2.2.1,x.2.2.2.1,(IntKind.wrap .i64 (x.2.2.2.2.1 + 1)),x.2.2.2.2.2.1,x.2.2.2.2.2.2.1,x.2.2.2.2.2.2.2.1,x.2.2.2.2.2.2.2.2.1,x.2.2.2.2.2.2.2.2.2.1,()) S) (Jnrm (x.1,x.2.1,x.2.2.1,x.2.2.2.1,x.2.2.2.2.1,x.2.2.2.2.2.2.2.1,x.2.2.2.2.2.2.2.2.1,x.2.2.2.2.2.2.2.2.2.1,()) S)
def Q1 (k : Nat) : Pc PG R (su Tryz.f36 29487) := mkEnd T_ok (C k) _ c1 z0 (.cond (.seq .auto (.piece (Q2 k).h)) .auto) ⟨⟨tr,(Q2 k).ok⟩,tr⟩ (fun x S K => q1 k (kN K z0) x S)
def b2 (k : Nat) (J4 : Kt R (LL × U1)) (Jret : Kt R (LL × Bool × U1)) (rec : Kt R T5) (x : T5) (S : LL) : Option R :=
 ifB (decide ((x.2.2.2.2.2.1.length : Int) < x.2.2.2.1)) (rounds (b3 k (fun o55 S => ifB (o55.2.2.2.2.2.2.1 == (o55.2.1.2.2 : Int)) (Jret ([],false,()) S) (idxN o55.2.2.2.2.1.2.2 o55.2.2.2.2.2.2.1 fun v56 => objAt S o55.2.2.2.2.1.1 fun ty c57 => stO c57 (o55.2.2.2.2.1.2.1 + v56 * 1) [(.bool true)] fun c58 => setS (S.set o55.2.2.2.2.1.1 (ty c58)) fun S => app 8 o55.2.2.2.2.2.1 [(.int .i64 o55.2.2.2.2.2.2.1)] fun l59 => idxN o55.2.2.1.2.2 o55.2.2.2.2.2.2.1 fun v60 => objAt S o55.2.2.1.1 fun ty c61 => ldSl 1 c61 (o55.2.2.1.2.1 + v60 * 1) fun l62 => rounds (b4 k rec) k (o55.1,o55.2.1,o55.2.2.1,o55.2.2.2.1,o55.2.2.2.2.1,l59,l62,(l62.length : Int),0,()) S))) k (x.1,x.2.1,x.2.2.1,x.2.2.2.1,x.2.2.2.2.1,x.2.2.2.2.2.1,0,()) S) (J4 x.2.2.2.2.2 S)
def L2 (k : Nat) : Pc PG R (.loop (su Tryz.f36 1151)) := mkLoop T_ok (C k) _ e8 k (.seq (.seq .auto (.cond .auto (.mask e4 .auto))) (.block (.seq .auto (.seq (.block (.piece (L3 k).h)) (.seq (.seq .auto (.cond (.seq .auto (.mask mr .auto)) .auto)) (.seq (.own [(3,1)]) (.seq (.own [(0,1)]) (.seq (.own [(3,1)]) (.block (.piece (L4 k).h)))))))))) ⟨⟨tr,tr,tr⟩,tr,(L3 k).ok,⟨tr,⟨tr,tr⟩,tr⟩,tr,tr,tr,(L4 k).ok⟩ (fun K => b2 k (kX K 4 e4) (kR K mr))
def b0 (k : Nat) (J0 : Kt R (N2 × N3 × N3 × N3 × Int × U1)) (rec : Kt R T3) (x : T3) (S : LL) : Option R :=
 ifB (decide (x.2.2.2.2.2.2.2.1 < x.2.2.2.2.2.2.1)) (idxL x.2.2.2.2.2.1 x.2.2.2.2.2.2.2.1 fun v11 => asSl 1 (leaf v11 0) fun l12 => ifB (false == true) (q1 k (fun o33 S => rec (o33.1,o33.2.1,o33.2.2.1,o33.2.2.2.1,o33.2.2.2.2.1,o33.2.2.2.2.2.1,o33.2.2.2.2.2.2.1,(IntKind.wrap .i64 (o33.2.2.2.2.2.2.2.1 + 1)),()) S) (x.1,x.2.1,x.2.2.1,x.2.2.2.1,x.2.2.2.2.1,x.2.2.2.2.2.2.2.1,l12,x.2.2.2.2.2.1,x.2.2.2.2.2.2.1,x.2.2.2.2.2.2.2.1,true,()) S) (idxN x.2.1.2.2 x.2.2.2.2.2.2.2.1 fun v34 => objAt S x.2.1.1 fun ty c35 => ldBool c35 (x.2.1.2.1 + v34 * 1) fun b36 => q1 k (fun o37 S => rec (o37.1,o37.2.1,o37.2.2.1,o37.2.2.2.1,o37.2.2.2.2.1,o37.2.2.2.2.2.1,o37.2.2.2.2.2.2.1,(IntKind.wrap .i64 (o37.2.2.2.2.2.2.2.1 + 1)),()) S) (x.1,x.2.1,x.2.2.1,x.2.2.2.1,x.2.2.2.2.1,x.2.2.2.2.2.2.2.1,l12,x.2.2.2.2.2.1,x.2.2.2.2.2.2.1,x.2.2.2.2.2.2.2.1,b36,()) S)) (J0 (x.1,x.2.1,x.2.2.1,x.2.2.2.1,x.2.2.2.2.1,()) S)
def L0 (k : Nat) : Pc PG R (.loop (su Tryz.f36 303)) := mkLoop T_ok (C k) _ z0 k (.seq .auto (.seq (.cond .auto (.mask e0 .auto)) (.seq (.block (.seq .auto (.seq (.own [(6,1)]) (.piece (Q1 k).h)))) .auto))) ⟨tr,⟨tr,tr⟩,⟨tr,tr,(Q1 k).ok⟩,tr⟩ (fun K => b0 k (kX K 0 e0))
def fn (k : Nat) (x : (N2 × N3 × U1)) (S : LL) (K : Kt R (LL × Bool × U1)) : Option R :=
 objAt S x.1.1 fun ty c1 => ldSl 8 c1 (x.1.2 + 0) fun l2 => ifB (decide ((l2.length : Int) = (l2.length : Int))) (mkN (l2.length : Int) 8 fun m3 => newObj S (.obj 3 (zeros m3 [(.int .i64 (0 : Int))])) fun i4 S => objAt S x.1.1 fun ty c5 => ldSl 8 c5 (x.1.2 + 0) fun l6 => ifB (decide ((l6.length : Int) = (l6.length : Int))) (mkN (l6.length : Int) 24 fun m7 => newObj S (.obj 45 (zeros m7 [.nilsl])) fun i8 S => objAt S x.1.1 fun ty c9 => ldSl 1 c9 (x.1.2 + 2) fun l10 => rounds (b0 k (fun o38 S => objAt S o38.1.1 fun ty c39 => ldSl 8 c39 (o38.1.2 + 0) fun l40 => ifB (decide ((l40.length : Int) = (l40.length : Int))) (mkN (l40.length : Int) 1 fun m41 => newObj S (.obj 4 (zeros m41 [(.bool false)])) fun i42 S => rounds (b2 k (fun o72 S => K (o72.1,true,()) S) K) k (o38.2.1,o38.2.2.1,o38.2.2.2.1,o38.2.2.2.2.1,(i42,0,m41),[],()) S) none)) k (x.1,x.2.1,(i4,0,m3),(i8,0,m7),0,l10,(l10.length : Int),0,()) S) none) none
def en (k : Nat) : Ent PG R := mkFn T_ok Tryz.func36 ps rs (C k) (.seq .auto (.seq (.own [(3,1)]) (.seq (.own [(3,1)]) (.seq .auto (.seq (.seq (.own [(3,1)]) (.block (.piece (L0 k).h))) (.seq (.own [(3,1)]) (.seq .auto (.seq (.block (.piece (L2 k).h)) (.seq (.own [(0,1)]) (.mask mr .auto)))))))))) ⟨tr,tr,tr,tr,⟨tr,(L0 k).ok⟩,tr,tr,(L2 k).ok,tr,tr⟩ (fn k)
end G.steps_plan_order_osl
namespace G.steps_plan_closure
abbrev ps : Mk := sP (sL 1 [])
abbrev rs : Mk := sO 3 1 (sI [])
abbrev c0 : Mk := sP (n5 (sQ 1 (sR (n3 (sI (nM 65 []))))))
abbrev z0 : Mk := sP (n5 (sQ 1 (sR (nM 69 []))))
abbrev e2 : Mk := sP (n5 (sQ 1 (nM 70 [])))
abbrev m0 : Mk := sP (n5 (sQ 1 (sR (nM 15 (sL 1 (sI (sI (nM 51 []))))))))
abbrev mr : Mk := n4 (sO 3 1 (sI (nM 71 [])))
abbrev T1 := N2 × N3 × LV × U1
abbrev T0 := N2 × N3 × LV × LL × Int × Int × U1
def C (k : Nat) : List (Ent PG R) := [steps_plan_order_osl.en k,steps_plan_find.en k]
def q0 (k : Nat) (Jnrm : Kt R T1)  (x : (N2 × N3 × LV × Int × U1)) (S : LL) : Option R :=
 objAt S x.1.1 fun ty c28 => ldSl 1 c28 (x.1.2 + 2) fun l29 => idxL l29 x.2.2.2.1 fun v30 => asSl 1 (leaf v30 0) fun l31 => appO 3 1 8 S x.2.2.1 l31 fun v33 S => Jnrm (x.1,x.2.1,v33,()) S
def Q0 (k : Nat) : Pc PG R (su Tryz.f25 56607) := mkEnd T_ok (C k) _ c0 z0 (.own [(0,1),(4,1),(8,1)]) tr (fun x S K => q0 k (kN K z0) x S)
def b0 (k : Nat) (J0 : Kt R T1) (Jret : Kt R (LL × Int × U1)) (rec : Kt R T0) (x : T0) (S : LL) : Option R :=
 ifB (decide (x.2.2.2.2.2.1 < x.2.2.2.2.1)) (idxL x.2.2.2.1 x.2.2.2.2.2.1 fun v5 => asStr (leaf v5 0) fun s6 => steps_plan_find.fn k (x.1,s6,()) S fun r7 S => ifB (decide (r7.1 < 0)) (Jret ([],9,()) S) (appO 3 1 8 S x.2.2.1 [(.int .i64 r7.1)] fun v9 S => rec (x.1,x.2.1,v9,x.2.2.2.1,x.2.2.2.2.1,(IntKind.wrap .i64 (x.2.2.2.2.2.1 + 1)),()) S)) (J0 (x.1,x.2.1,x.2.2.1,()) S)
def L0 (k : Nat) : Pc PG R (.loop (su Tryz.f25 303)) := mkLoop T_ok (C k) _ m0 k (.seq .auto (.seq (.cond .auto (.mask z0 .auto)) (.seq (.block (.seq .auto (.seq .auto (.seq (.seq .auto (.cond (.seq .auto (.mask mr .auto)) .auto)) (.own [(0,1),(3,1)]))))) .auto))) ⟨tr,⟨tr,tr⟩,⟨tr,tr,⟨tr,⟨tr,tr⟩,tr⟩,tr⟩,tr⟩ (fun K => b0 k (kX K 0 z0) (kR K mr))
def b1 (k : Nat) (J2 : Kt R (N2 × N3 × U1)) (rec : Kt R T1) (x : T1) (S : LL) : Option R :=
 lenO (dup x.2.2.1) fun n11 => ifB (decide ((n11 : Int) > 0)) (lenO (dup x.2.2.1) fun n12 => oslOr (dup x.2.2.1) (fun i14 p15 z17 n16 => ifB (Nat.beq z17 1) (idxN n16 (IntKind.wrap .i64 ((n12 : Int) - 1)) fun v13 => objAt S i14 fun ty c18 => ldInt .i64 c18 (p15 + v13 * z17) fun n19 => lenO (dup x.2.2.1) fun n20 => slO 1 (dup x.2.2.1) (IntKind.wrap .i64 ((n20 : Int) - 1)) fun v21 => idxN x.2.1.2.2 n19 fun v22 => objAt S x.2.1.1 fun ty c23 => ldBool c23 (x.2.1.2.1 + v22 * 1) fun b24 => ifB (!b24) (idxN x.2.1.2.2 n19 fun v25 => objAt S x.2.1.1 fun ty c26 => stO c26 (x.2.1.2.1 + v25 * 1) [(.bool true)] fun c27 => setS (S.set x.2.1.1 (ty c27)) fun S => q0 k rec (x.1,x.2.1,v21,n19,()) S) (rec (x.1,x.2.1,v21,()) S)) none) none) (J2 (x.1,x.2.1,()) S)
def L1 (k : Nat) : Pc PG R (.loop (su Tryz.f25 287)) := mkLoop T_ok (C k) _ z0 k (.seq (.seq (.own [(0,2),(1,1)]) (.cond .auto (.mask e2 .auto))) (.block (.seq (.own [(0,2),(1,2),(2,1),(4,1),(5,1)]) (.seq (.own [(0,2),(1,2),(2,1),(4,1)]) (.seq (.own [(3,1)]) (.cond (.seq (.own [(3,1)]) (.piece (Q0 k).h)) .auto)))))) ⟨⟨tr,tr,tr⟩,tr,tr,tr,⟨tr,(Q0 k).ok⟩,tr⟩ (fun K => b1 k (kX K 2 e2))
def fn (k : Nat) (x : (N2 × LL × U1)) (S : LL) (K : Kt R (LL × Int × U1)) : Option R :=
 ifB (decide ((x.2.1.length : Int) > 500)) (K ([],2,()) S) (objAt S x.1.1 fun ty c1 => ldSl 8 c1 (x.1.2 + 0) fun l2 => ifB (decide ((l2.length : Int) = (l2.length : Int))) (mkN (l2.length : Int) 1 fun m3 => newObj S (.obj 4 (zeros m3 [(.bool false)])) fun i4 S => rounds (b0 k (fun o10 S => rounds (b1 k (fun o35 S => steps_plan_order_osl.fn k o35 S fun r36 S => K (r36.1,0,()) S)) k o10 S) K) k (x.1,(i4,0,m3),.nilsl,x.2.1,(x.2.1.length : Int),0,()) S) none)
def en (k : Nat) : Ent PG R := mkFn T_ok Tryz.func25 ps rs (C k) (.seq .auto (.seq (.seq .auto (.cond (.seq .auto (.mask mr .auto)) .auto)) (.seq (.own [(3,1)]) (.seq .auto (.seq (.seq .auto (.block (.piece (L0 k).h))) (.seq (.block (.piece (L1 k).h)) (.seq (.own [(3,1)]) (.seq (.own [(0,1)]) (.mask mr .auto))))))))) ⟨tr,⟨tr,⟨tr,tr⟩,tr⟩,tr,tr,⟨tr,(L0 k).ok⟩,(L1 k).ok,tr,tr,tr⟩ (fn k)
end G.steps_plan_closure
namespace G.steps_Order
abbrev ps : Mk := sL 8 (sL 1 [])
abbrev rs : Mk := sO 9 1 (sI [])
abbrev e0 : Mk := n7 (sI (n1 (sO 9 1 (nM 33 []))))
abbrev m0 : Mk := sL 8 (n6 (sI (n1 (sO 9 1 (nM 16 (sL 1 (sI (sI (nM 14 [])))))))))
abbrev mr : Mk := n4 (sO 9 1 (sI (nM 37 [])))
abbrev T0 := LL × Int × LL × LL × Int × Int × U1
def C (k : Nat) : List (Ent PG R) := [steps_open.en k,steps_plan_closure.en k]
def b0 (k : Nat) (J0 : Kt R (Int × LL × U1)) (rec : Kt R T0) (x : T0) (S : LL) : Option R :=
 ifB (decide (x.2.2.2.2.2.1 < x.2.2.2.2.1)) (idxL x.2.2.2.1 x.2.2.2.2.2.1 fun v5 => asInt .i64 (leaf v5 0) fun n6 => idxL x.1 n6 fun v7 => asStr (leaf v7 0) fun s8 => app 16 x.2.2.1 [(.str s8)] fun l9 => rec (x.1,x.2.1,l9,x.2.2.2.1,x.2.2.2.2.1,(IntKind.wrap .i64 (x.2.2.2.2.2.1 + 1)),()) S) (J0 (x.2.1,x.2.2.1,()) S)
def L0 (k : Nat) : Pc PG R (.loop (su Tryz.f7 607)) := mkLoop T_ok (C k) _ m0 k (.seq .auto (.seq (.cond .auto (.mask e0 .auto)) (.seq (.block (.seq .auto (.own [(0,1)]))) .auto))) ⟨tr,⟨tr,tr⟩,⟨tr,tr⟩,tr⟩ (fun K => b0 k (kX K 0 e0))
def fn0 (k : Nat) (x : (LL × LL × U1)) (S : LL) (K : Kt R (LL × Int × U1)) : Option R :=
 steps_open.fn k (x.1,()) S fun r1 S => ifB (r1.2.1 != 0) (K ([],r1.2) S) (asPtr r1.1 fun i2 p3 => steps_plan_closure.fn k ((i2,p3),x.2) S fun r4 S => rounds (b0 k (fun o10 S => K (o10.2.1,o10.1,()) S)) k (x.1,r4.2.1,[],r4.1,(r4.1.length : Int),0,()) S)
def en0 (k : Nat) : Ent PG R := mkFn T_ok Tryz.func7 ps rs (C k) (.seq .auto (.seq (.own [(2,1)]) (.seq (.seq .auto (.cond (.seq .auto (.mask mr .auto)) .auto)) (.seq (.asp 6 (.own [(0,2),(3,1)])) (.seq .auto (.seq (.seq .auto (.block (.piece (L0 k).h))) (.seq (.own [(0,1)]) (.mask mr .auto)))))))) ⟨tr,tr,⟨tr,⟨tr,tr⟩,tr⟩,tr,tr,⟨tr,(L0 k).ok⟩,tr,tr⟩ (fn0 k)
def fn (k : Nat) (x : (LL × LL × U1)) (S : LL) (K : Kt R (LL × Int × U1)) : Option R := popK rs 6 S (fn0 k x S fun r S => some (resE rs r,S)) K
def en (k : Nat) : Ent PG R := mkPop (rs := rs) (en0 k).ok
end G.steps_Order
namespace G.action_CheckLooks
abbrev ps : Mk := sL 3 []
abbrev rs : Mk := sI []
abbrev c0 : Mk := sL 3 (n2 (sI (sX [.str,.str,.bool] (n3 (sL 3 (sI (sI (n9 (sB (nM 31 []))))))))))
abbrev z0 : Mk := sL 3 (n7 (sL 3 (sI (sI (nM 41 [])))))
abbrev e0 : Mk := nM 52 []
abbrev mr : Mk := n2 (sI (nM 49 []))
abbrev T1 := LL × LL × Int × Int × U1
abbrev T0 := LL × Int × (BA × BA × Bool × U1) × LL × Int × Int × Bool × U1
def C (k : Nat) : List (Ent PG R) := [blob_IsPath.en k,blob_IsDigest.en k]
def q1 (k : Nat) (Jnrm : Kt R T0)  (x : T0) (S : LL) : Option R :=
 ifB x.2.2.2.2.2.2.1 (Jnrm x S) (ifB (strEq x.2.2.1.2.1 (bs [])) (Jnrm (x.1,x.2.1,x.2.2.1,x.2.2.2.1,x.2.2.2.2.1,x.2.2.2.2.2.1,x.2.2.1.2.2) S) (Jnrm (x.1,x.2.1,x.2.2.1,x.2.2.2.1,x.2.2.2.2.1,x.2.2.2.2.2.1,false,()) S))
def Q1 (k : Nat) : Pc PG R (su Tryz.f84 111819) := mkEnd T_ok (C k) _ c0 c0 (.cond .auto .auto) ⟨tr,tr⟩ (fun x S K => q1 k (kN K c0) x S)
def q0 (k : Nat) (Jnrm : Kt R T1) (Jret : Kt R (Int × U1)) (x : T0) (S : LL) : Option R :=
 ifB x.2.2.2.2.2.2.1 (Jret ((3 : Int),()) S) (ifB (decide (x.2.1 > 0)) (idxL x.1 (IntKind.wrap .i64 (x.2.1 - 1)) fun v9 => asStr (leaf v9 0) fun s10 => ifB (strLt x.2.2.1.1 s10 || strEq x.2.2.1.1 s10) (Jret ((8 : Int),()) S) (Jnrm (x.1,x.2.2.2.1,x.2.2.2.2.1,x.2.2.2.2.2.1,()) S)) (Jnrm (x.1,x.2.2.2.1,x.2.2.2.2.1,x.2.2.2.2.2.1,()) S))
def Q0 (k : Nat) : Pc PG R (su Tryz.f84 62667) := mkEnd T_ok (C k) _ c0 z0 (.cond (.seq .auto (.mask mr .auto)) (.seq (.drawn [] [0,1,2,3,4,5,6,7,8,9,10,11,12,13]) (.cond (.seq .auto (.mask mr .auto)) .auto))) ⟨⟨tr,tr⟩,(drawn_an (by kernel_rfl)),⟨tr,tr⟩,tr⟩ (fun x S K => q0 k (kN K z0) (kR K mr) x S)
def b0 (k : Nat) (J0 : Kt R (U1)) (Jret : Kt R (Int × U1)) (rec : Kt R T1) (x : T1) (S : LL) : Option R :=
 ifB (decide (x.2.2.2.1 < x.2.2.1)) (idxL x.2.1 x.2.2.2.1 fun v1 => mat 3 v1 fun c2 => asStr (c2.getD 0 .any) fun s3 => asStr (c2.getD 1 .any) fun s4 => asBool (c2.getD 2 .any) fun b5 => blob_IsPath.fn k (s3,()) S fun r6 S => ifB (!r6.1) (Jret ((3 : Int),()) S) (ifB (!(strEq s4 (bs []))) (blob_IsDigest.fn k (s4,()) S fun r7 S => q1 k (fun o8 S => q0 k (fun o11 S => rec (o11.1,o11.2.1,o11.2.2.1,(IntKind.wrap .i64 (o11.2.2.2.1 + 1)),()) S) Jret o8 S) (x.1,x.2.2.2.1,(s3,s4,b5,()),x.2.1,x.2.2.1,x.2.2.2.1,(!r7.1),()) S) (q1 k (fun o13 S => q0 k (fun o14 S => rec (o14.1,o14.2.1,o14.2.2.1,(IntKind.wrap .i64 (o14.2.2.2.1 + 1)),()) S) Jret o13 S) (x.1,x.2.2.2.1,(s3,s4,b5,()),x.2.1,x.2.2.1,x.2.2.2.1,false,()) S))) (J0 (()) S)
def L0 (k : Nat) : Pc PG R (.loop (su Tryz.f84 75)) := mkLoop T_ok (C k) _ z0 k (.seq .auto (.seq (.cond .auto (.mask e0 .auto)) (.seq (.block (.seq .auto (.block (.seq .auto (.cond (.seq .auto (.mask mr .auto)) (.seq (.seq .auto (.piece (Q1 k).h)) (.piece (Q0 k).h))))))) .auto))) ⟨tr,⟨tr,tr⟩,⟨tr,tr,⟨tr,tr⟩,⟨tr,(Q1 k).ok⟩,(Q0 k).ok⟩,tr⟩ (fun K => b0 k (kX K 0 e0) (kR K mr))
def fn (k : Nat) (x : (LL × U1)) (S : LL) (K : Kt R (Int × U1)) : Option R :=
 ifB (decide ((x.1.length : Int) > 4000)) (K (2,()) S) (rounds (b0 k (fun o16 S => K (0,()) S) K) k (x.1,x.1,(x.1.length : Int),0,()) S)
def en (k : Nat) : Ent PG R := mkFn T_ok Tryz.func84 ps rs (C k) (.seq .auto (.seq (.seq .auto (.cond (.seq .auto (.mask mr .auto)) .auto)) (.seq (.seq .auto (.block (.piece (L0 k).h))) (.seq .auto (.mask mr .auto))))) ⟨tr,⟨tr,⟨tr,tr⟩,tr⟩,⟨tr,(L0 k).ok⟩,tr,tr⟩ (fn k)
end G.action_CheckLooks
namespace G.action_CheckResult_1
abbrev ps : Mk := sh (.lf (.int .i32)) []
abbrev rs : Mk := sB []
abbrev mr : Mk := n2 (sB (nX []))
def C (k : Nat) : List (Ent PG R) := []
def fn (k : Nat) (x : (Int × U1)) (S : LL) (K : Kt R (Bool × U1)) : Option R :=
 ifB (x.1 != 10) (ifB (decide (x.1 < 32)) (K (true,()) S) (K ((decide (x.1 > 126)),()) S)) (K (false,()) S)
def en (k : Nat) : Ent PG R := mkFn T_ok Tryz.func111 ps rs (C k) (.seq .auto (.seq .auto (.mask mr .auto))) ⟨tr,tr,tr⟩ (fn k)
end G.action_CheckResult_1
def H.indexFunc_at_action_CheckResult_1.fn (k : Nat) (x : ByteArray × Unit × Bool × Unit) (S : List LV) (K : Int × Unit → List LV → Option R) : Option R := H.indexFunc.fn (G.action_CheckResult_1.en k).h 111 x S K
def H.indexFunc_at_action_CheckResult_1.h (k : Nat) : Hd R := hT (H.indexFunc.ps 111) fun x S K => H.indexFunc_at_action_CheckResult_1.fn k x S fun r S => K (resE H.indexFunc.rs r) S
theorem H.indexFunc_at_action_CheckResult_1.ok (k : Nat) : HSound Tryz.prog 201 (H.indexFunc_at_action_CheckResult_1.h (R := R) k) := H.indexFunc.ok (G.action_CheckResult_1.en k).ok (enters_ok Tryz.func111 (by kernel_rfl) (by kernel_rfl))
namespace G.strings_IndexFunc_at_action_CheckResult_1
abbrev ps : Mk := sS (sh (.fn 111 []) [])
abbrev rs : Mk := sI []
abbrev mr : Mk := n4 (sI (n3 []))
def C (k : Nat) : List (Ent PG R) := [⟨201,H.indexFunc_at_action_CheckResult_1.h k,H.indexFunc_at_action_CheckResult_1.ok k⟩]
def fn (k : Nat) (x : (BA × (U1) × U1)) (S : LL) (K : Kt R (Int × U1)) : Option R :=
 H.indexFunc_at_action_CheckResult_1.fn k (x.1,(()),true,()) S K
def en (k : Nat) : Ent PG R := mkFn T_ok Tryz.func168 ps rs (C k) (.seq .auto (.seq .auto (.mask mr .auto))) ⟨tr,tr,tr⟩ (fn k)
end G.strings_IndexFunc_at_action_CheckResult_1
namespace G.strings_ContainsFunc_at_action_CheckResult_1
abbrev ps : Mk := sS (sh (.fn 111 []) [])
abbrev rs : Mk := sB []
abbrev mr : Mk := n4 (sB (n4 []))
def C (k : Nat) : List (Ent PG R) := [strings_IndexFunc_at_action_CheckResult_1.en k]
def fn (k : Nat) (x : (BA × (U1) × U1)) (S : LL) (K : Kt R (Bool × U1)) : Option R :=
 strings_IndexFunc_at_action_CheckResult_1.fn k (x.1,(()),()) S fun r1 S => K ((decide (r1.1 ≥ 0)),()) S
def en (k : Nat) : Ent PG R := mkFn T_ok Tryz.func110 ps rs (C k) (.seq .auto (.seq .auto (.mask mr .auto))) ⟨tr,tr,tr⟩ (fn k)
end G.strings_ContainsFunc_at_action_CheckResult_1
namespace G.strings_HasSuffix
abbrev ps : Mk := sS (sS [])
abbrev rs : Mk := sB []
abbrev mr : Mk := n4 (sB (n3 []))
def C (k : Nat) : List (Ent PG R) := [internal_stringslite_HasSuffix.en k]
def fn (k : Nat) (x : (BA × BA × U1)) (S : LL) (K : Kt R (Bool × U1)) : Option R :=
 internal_stringslite_HasSuffix.fn k x S K
def en (k : Nat) : Ent PG R := mkFn T_ok Tryz.func112 ps rs (C k) (.seq .auto (.seq .auto (.mask mr .auto))) ⟨tr,tr,tr⟩ (fn k)
end G.strings_HasSuffix
namespace G.blob_clashes
abbrev ps : Mk := sh (.lf (.map)) (sS [])
abbrev rs : Mk := sB []
abbrev e0 : Mk := nM 23 []
abbrev m0 : Mk := sh (.lf (.map)) (sS (n5 (sI (sI (nM 14 [])))))
abbrev mr : Mk := n4 (sB (nM 18 []))
abbrev T0 := Nat × BA × Int × Int × U1
def C (k : Nat) : List (Ent PG R) := []
def b0 (k : Nat) (J0 : Kt R (U1)) (Jret : Kt R (Bool × U1)) (rec : Kt R T0) (x : T0) (S : LL) : Option R :=
 ifB (decide (x.2.2.2.1 < x.2.2.1)) (idxStr x.2.1 x.2.2.2.1 fun c1 => ifB (c1 == 47) (slStr x.2.1 (0 : Int) x.2.2.2.1 fun s2 => mpAt S x.1 .str fun m3 => asBool ((mapGet m3 (.str s2)).getD (.bool false)) fun b4 => ifB b4 (Jret (true,()) S) (rec (x.1,x.2.1,x.2.2.1,(IntKind.wrap .i64 (x.2.2.2.1 + 1)),()) S)) (rec (x.1,x.2.1,x.2.2.1,(IntKind.wrap .i64 (x.2.2.2.1 + 1)),()) S)) (J0 (()) S)
def L0 (k : Nat) : Pc PG R (.loop (su Tryz.f170 37)) := mkLoop T_ok (C k) _ m0 k (.seq .auto (.seq (.cond .auto (.mask e0 .auto)) (.seq (.block (.seq .auto (.seq .auto (.cond (.seq .auto (.mask mr .auto)) .auto)))) .auto))) ⟨tr,⟨tr,tr⟩,⟨tr,tr,⟨tr,tr⟩,tr⟩,tr⟩ (fun K => b0 k (kX K 0 e0) (kR K mr))
def fn (k : Nat) (x : (Nat × BA × U1)) (S : LL) (K : Kt R (Bool × U1)) : Option R :=
 rounds (b0 k (fun o5 S => K (false,()) S) K) k (x.1,x.2.1,(x.2.1.size : Int),0,()) S
def en (k : Nat) : Ent PG R := mkFn T_ok Tryz.func170 ps rs (C k) (.seq .auto (.seq (.seq .auto (.block (.piece (L0 k).h))) (.seq .auto (.mask mr .auto)))) ⟨tr,⟨tr,(L0 k).ok⟩,tr,tr⟩ (fn k)
end G.blob_clashes
namespace G.blob_CheckFiles
abbrev ps : Mk := sL 3 []
abbrev rs : Mk := sI []
abbrev c0 : Mk := sL 3 (n2 (sI (sh (.lf (.map)) (n1 (sX [.str,.bool,.sl 1] (n6 (sL 3 (sI (sI (nM 50 []))))))))))
abbrev z0 : Mk := sL 3 (n2 (sI (sh (.lf (.map)) (n8 (sL 3 (sI (sI (nM 50 []))))))))
abbrev e0 : Mk := sL 3 (n2 (sI (sh (.lf (.map)) (nM 61 []))))
abbrev e3 : Mk := n3 (sI (nM 62 []))
abbrev m1 : Mk := n3 (sI (sh (.lf (.map)) (nM 48 (sL 3 (sI (sI (nX [])))))))
abbrev mr : Mk := n2 (sI (nM 63 []))
abbrev T3 := Int × U1
abbrev T2 := Int × Nat × LL × Int × Int × U1
abbrev T1 := LL × Int × Nat × LL × Int × Int × U1
abbrev T0 := LL × Int × Nat × (BA × Bool × LL × U1) × LL × Int × Int × U1
def C (k : Nat) : List (Ent PG R) := [blob_IsPath.en k,blob_clashes.en k]
def q1 (k : Nat) (Jnrm : Kt R T1)  (x : T0) (S : LL) : Option R :=
 mpAt S x.2.2.1 .str fun m10 => setS (S.set x.2.2.1 (.mp .str (mapPut m10 (.str x.2.2.2.1.1) (.bool true)))) fun S => Jnrm (x.1,x.2.1,x.2.2.1,x.2.2.2.2) S
def Q1 (k : Nat) : Pc PG R (su Tryz.f113 62255) := mkEnd T_ok (C k) _ c0 z0 (.auto) tr (fun x S K => q1 k (kN K z0) x S)
def q0 (k : Nat) (Jnrm : Kt R T1)  (x : T0) (S : LL) : Option R :=
 q1 k Jnrm (x.1,(IntKind.wrap .i64 (x.2.1 + (x.2.2.2.1.2.2.1.length : Int))),x.2.2) S
def Q0 (k : Nat) : Pc PG R (su Tryz.f113 29487) := mkEnd T_ok (C k) _ c0 z0 (.seq .auto (.piece (Q1 k).h)) ⟨tr,(Q1 k).ok⟩ (fun x S K => q0 k (kN K z0) x S)
def b1 (k : Nat) (J3 : Kt R T3) (Jret : Kt R T3) (rec : Kt R T2) (x : T2) (S : LL) : Option R :=
 ifB (decide (x.2.2.2.2.1 < x.2.2.2.1)) (idxL x.2.2.1 x.2.2.2.2.1 fun v15 => mat 3 v15 fun c16 => asStr (c16.getD 0 .any) fun s17 => asBool (c16.getD 1 .any) fun b18 => asSl 1 (c16.getD 2 .any) fun l19 => blob_clashes.fn k (x.2.1,s17,()) S fun r20 S => ifB r20.1 (Jret ((12 : Int),()) S) (rec (x.1,x.2.1,x.2.2.1,x.2.2.2.1,(IntKind.wrap .i64 (x.2.2.2.2.1 + 1)),()) S)) (J3 (x.1,()) S)
def L1 (k : Nat) : Pc PG R (.loop (su Tryz.f113 607)) := mkLoop T_ok (C k) _ m1 k (.seq .auto (.seq (.cond .auto (.mask e3 .auto)) (.seq (.block (.seq .auto (.seq .auto (.cond (.seq .auto (.mask mr .auto)) .auto)))) .auto))) ⟨tr,⟨tr,tr⟩,⟨tr,tr,⟨tr,tr⟩,tr⟩,tr⟩ (fun K => b1 k (kX K 3 e3) (kR K mr))
def b0 (k : Nat) (J0 : Kt R (LL × Int × Nat × U1)) (Jret : Kt R T3) (rec : Kt R T1) (x : T1) (S : LL) : Option R :=
 ifB (decide (x.2.2.2.2.2.1 < x.2.2.2.2.1)) (idxL x.2.2.2.1 x.2.2.2.2.2.1 fun v2 => mat 3 v2 fun c3 => asStr (c3.getD 0 .any) fun s4 => asBool (c3.getD 1 .any) fun b5 => asSl 1 (c3.getD 2 .any) fun l6 => blob_IsPath.fn k (s4,()) S fun r7 S => ifB (!r7.1) (Jret ((3 : Int),()) S) (ifB (decide ((l6.length : Int) > 100000)) (Jret ((2 : Int),()) S) (ifB (decide (x.2.2.2.2.2.1 > 0)) (idxL x.1 (IntKind.wrap .i64 (x.2.2.2.2.2.1 - 1)) fun v8 => asStr (leaf v8 0) fun s9 => ifB (strLt s4 s9 || strEq s4 s9) (Jret ((8 : Int),()) S) (q0 k (fun o12 S => rec (o12.1,o12.2.1,o12.2.2.1,o12.2.2.2.1,o12.2.2.2.2.1,(IntKind.wrap .i64 (o12.2.2.2.2.2.1 + 1)),()) S) (x.1,x.2.1,x.2.2.1,(s4,b5,l6,()),x.2.2.2) S)) (q0 k (fun o13 S => rec (o13.1,o13.2.1,o13.2.2.1,o13.2.2.2.1,o13.2.2.2.2.1,(IntKind.wrap .i64 (o13.2.2.2.2.2.1 + 1)),()) S) (x.1,x.2.1,x.2.2.1,(s4,b5,l6,()),x.2.2.2) S)))) (J0 (x.1,x.2.1,x.2.2.1,()) S)
def L0 (k : Nat) : Pc PG R (.loop (su Tryz.f113 303)) := mkLoop T_ok (C k) _ z0 k (.seq .auto (.seq (.cond .auto (.mask e0 .auto)) (.seq (.block (.seq .auto (.seq (.block (.seq .auto (.cond (.seq .auto (.mask mr .auto)) (.seq .auto (.cond (.seq .auto (.mask mr .auto)) (.seq (.drawn [] [0,1,2,3,4,5,6,7,8,9,10,11,12,13]) (.cond (.seq .auto (.mask mr .auto)) .auto))))))) (.piece (Q0 k).h)))) .auto))) ⟨tr,⟨tr,tr⟩,⟨tr,⟨tr,⟨tr,tr⟩,tr,⟨tr,tr⟩,(drawn_an (by kernel_rfl)),⟨tr,tr⟩,tr⟩,(Q0 k).ok⟩,tr⟩ (fun K => b0 k (kX K 0 e0) (kR K mr))
def fn0 (k : Nat) (x : (LL × U1)) (S : LL) (K : Kt R T3) : Option R :=
 ifB (decide ((x.1.length : Int) > 1000)) (K (2,()) S) (newObj S (.mp .str []) fun i1 S => rounds (b0 k (fun o14 S => rounds (b1 k (fun o21 S => ifB (decide (o21.1 > 2000000)) (K (2,()) S) (K (0,()) S)) K) k (o14.2.1,o14.2.2.1,o14.1,(o14.1.length : Int),0,()) S) K) k (x.1,0,i1,x.1,(x.1.length : Int),0,()) S)
def en0 (k : Nat) : Ent PG R := mkFn T_ok Tryz.func113 ps rs (C k) (.seq .auto (.seq (.seq .auto (.cond (.seq .auto (.mask mr .auto)) .auto)) (.seq .auto (.seq .auto (.seq (.seq .auto (.block (.piece (L0 k).h))) (.seq (.seq .auto (.block (.piece (L1 k).h))) (.seq (.seq .auto (.cond (.seq .auto (.mask mr .auto)) .auto)) (.seq .auto (.mask mr .auto))))))))) ⟨tr,⟨tr,⟨tr,tr⟩,tr⟩,tr,tr,⟨tr,(L0 k).ok⟩,⟨tr,(L1 k).ok⟩,⟨tr,⟨tr,tr⟩,tr⟩,tr,tr⟩ (fn0 k)
def fn (k : Nat) (x : (LL × U1)) (S : LL) (K : Kt R T3) : Option R := popK rs 6 S (fn0 k x S fun r S => some (resE rs r,S)) K
def en (k : Nat) : Ent PG R := mkPop (rs := rs) (en0 k).ok
end G.blob_CheckFiles
namespace G.action_CheckResult
abbrev ps : Mk := sA [jI,.str,.sl 3,.sl 3,jI] []
abbrev rs : Mk := sI []
abbrev c0 : Mk := n1 (sX [jI,.str,.sl 3,.sl 3,jI] (n2 (sB (nM 56 []))))
abbrev c1 : Mk := n1 (sX [jI,.str,.sl 3,.sl 3,jI] (nM 59 []))
abbrev c3 : Mk := n1 (sX [jI,.str,.sl 3,.sl 3,jI] (n1 (sI (nM 57 []))))
abbrev mr : Mk := n2 (sI (nM 58 []))
abbrev T2 := Int × U1
abbrev T1 := Int × BA × LL × LL × Int × U1
abbrev T0 := T1 × U1
def C (k : Nat) : List (Ent PG R) := [action_CheckLooks.en k,strings_ContainsFunc_at_action_CheckResult_1.en k,strings_HasSuffix.en k,blob_CheckFiles.en k]
def q0 (k : Nat) (Jnrm : Kt R T0) (Jret : Kt R T2) (x : (T1 × Bool × U1)) (S : LL) : Option R :=
 ifB x.2.1 (Jret ((1 : Int),()) S) (ifB (decide ((x.1.2.1.size : Int) > 100000)) (Jret ((2 : Int),()) S) (strings_ContainsFunc_at_action_CheckResult_1.fn k (x.1.2.1,(()),()) S fun r1 S => ifB r1.1 (Jret ((3 : Int),()) S) (ifB (!(strEq x.1.2.1 (bs []))) (strings_HasSuffix.fn k (x.1.2.1,(bs [10]),()) S fun r2 S => ifB (!r2.1) (Jret ((3 : Int),()) S) (Jnrm (x.1,()) S)) (Jnrm (x.1,()) S))))
def Q0 (k : Nat) : Pc PG R (su Tryz.f85 25) := mkEnd T_ok (C k) _ c0 c1 (.cond (.seq .auto (.mask mr .auto)) (.seq .auto (.cond (.seq .auto (.mask mr .auto)) (.seq .auto (.cond (.seq .auto (.mask mr .auto)) .auto))))) ⟨⟨tr,tr⟩,tr,⟨tr,tr⟩,tr,⟨tr,tr⟩,tr⟩ (fun x S K => q0 k (kN K c1) (kR K mr) x S)
def q1 (k : Nat) (Jret : Kt R T2) (x : T0) (S : LL) : Option R :=
 action_CheckLooks.fn k (x.1.2.2.2.1,()) S Jret
def Q1 (k : Nat) : Pc PG R (su Tryz.f85 31) := mkCut T_ok (C k) _ c1 (.seq .auto (.mask mr .auto)) ⟨tr,tr⟩ (fun x S K => q1 k (kR K mr) x S)
def q3 (k : Nat) (Jnrm : Kt R T0) (Jret : Kt R T2) (x : (T1 × Int × U1)) (S : LL) : Option R :=
 ifB (x.2.1 != 0) (Jret x.2 S) (Jnrm (x.1,()) S)
def Q3 (k : Nat) : Pc PG R (su Tryz.f85 27) := mkEnd T_ok (C k) _ c3 c1 (.seq .auto (.cond (.seq .auto (.mask mr .auto)) .auto)) ⟨tr,⟨tr,tr⟩,tr⟩ (fun x S K => q3 k (kN K c1) (kR K mr) x S)
def q4 (k : Nat) (Jret : Kt R T2) (x : T0) (S : LL) : Option R :=
 ifB (decide ((x.1.2.2.1.length : Int) > 0)) (ifB (x.1.1 != 0) (Jret ((3 : Int),()) S) (q1 k Jret x S)) (q1 k Jret x S)
def Q4 (k : Nat) : Pc PG R (su Tryz.f85 15) := mkCut T_ok (C k) _ c1 (.seq (.seq .auto (.cond (.seq .auto (.mask mr .auto)) .auto)) (.piece (Q1 k).h)) ⟨⟨tr,⟨tr,tr⟩,tr⟩,(Q1 k).ok⟩ (fun x S K => q4 k (kR K mr) x S)
def q2 (k : Nat) (Jret : Kt R T2) (x : T0) (S : LL) : Option R :=
 blob_CheckFiles.fn k (x.1.2.2.1,()) S fun r4 S => q3 k (fun o5 S => q4 k Jret o5 S) Jret (x.1,r4) S
def Q2 (k : Nat) : Pc PG R (su Tryz.f85 7) := mkCut T_ok (C k) _ c1 (.seq (.seq .auto (.piece (Q3 k).h)) (.piece (Q4 k).h)) ⟨⟨tr,(Q3 k).ok⟩,(Q4 k).ok⟩ (fun x S K => q2 k (kR K mr) x S)
def fn (k : Nat) (x : T0) (S : LL) (K : Kt R T2) : Option R :=
 ifB (decide (x.1.1 < 0)) (q0 k (fun o3 S => q2 k K o3 S) K (x.1,true,()) S) (ifB (decide (x.1.1 > 999999)) (q0 k (fun o13 S => q2 k K o13 S) K (x.1,true,()) S) (ifB (decide (x.1.2.2.2.2.1 < 0)) (q0 k (fun o16 S => q2 k K o16 S) K (x.1,true,()) S) (q0 k (fun o19 S => q2 k K o19 S) K (x.1,(decide (x.1.2.2.2.2.1 > 50)),()) S)))
def en (k : Nat) : Ent PG R := mkFn T_ok Tryz.func85 ps rs (C k) (.seq .auto (.seq (.block (.seq .auto (.piece (Q0 k).h))) (.piece (Q2 k).h))) ⟨tr,⟨tr,(Q0 k).ok⟩,(Q2 k).ok⟩ (fn k)
end G.action_CheckResult
namespace G.slices_Equal_s_api_Look_api_Look
abbrev ps : Mk := sL 3 (sL 3 [])
abbrev rs : Mk := sB []
abbrev e0 : Mk := nM 26 []
abbrev m0 : Mk := sL 3 (sL 3 (nX (sI (sI (nM 12 [])))))
abbrev mr : Mk := n4 (sB (nM 21 []))
abbrev T0 := LL × LL × Int × Int × U1
def C (k : Nat) : List (Ent PG R) := []
def b0 (k : Nat) (J0 : Kt R (U1)) (Jret : Kt R (Bool × U1)) (rec : Kt R T0) (x : T0) (S : LL) : Option R :=
 ifB (decide (x.2.2.2.1 < x.2.2.1)) (idxL x.1 x.2.2.2.1 fun v1 => mat 3 v1 fun c2 => asStr (c2.getD 0 .any) fun s3 => asStr (c2.getD 1 .any) fun s4 => asBool (c2.getD 2 .any) fun b5 => idxL x.2.1 x.2.2.2.1 fun v6 => mat 3 v6 fun c7 => asStr (c7.getD 0 .any) fun s8 => asStr (c7.getD 1 .any) fun s9 => asBool (c7.getD 2 .any) fun b10 => ifB (!((strEq s3 s8 && (strEq s4 s9 && (b5 == b10 && true))) == true)) (Jret (false,()) S) (rec (x.1,x.2.1,x.2.2.1,(IntKind.wrap .i64 (x.2.2.2.1 + 1)),()) S)) (J0 (()) S)
def L0 (k : Nat) : Pc PG R (.loop (su Tryz.f86 75)) := mkLoop T_ok (C k) _ m0 k (.seq .auto (.seq (.cond .auto (.mask e0 .auto)) (.seq (.block (.seq .auto (.seq (.drawn [] [0,1,2,3,4,5,6,7,8]) (.cond (.seq .auto (.mask mr .auto)) .auto)))) .auto))) ⟨tr,⟨tr,tr⟩,⟨tr,(drawn_an (by kernel_rfl)),⟨tr,tr⟩,tr⟩,tr⟩ (fun K => b0 k (kX K 0 e0) (kR K mr))
def fn (k : Nat) (x : (LL × LL × U1)) (S : LL) (K : Kt R (Bool × U1)) : Option R :=
 ifB ((x.1.length : Int) != (x.2.1.length : Int)) (K (false,()) S) (rounds (b0 k (fun o11 S => K (true,()) S) K) k (x.1,x.2.1,(x.1.length : Int),0,()) S)
def en (k : Nat) : Ent PG R := mkFn T_ok Tryz.func86 ps rs (C k) (.seq .auto (.seq (.seq .auto (.cond (.seq .auto (.mask mr .auto)) .auto)) (.seq (.seq .auto (.block (.piece (L0 k).h))) (.seq .auto (.mask mr .auto))))) ⟨tr,⟨tr,⟨tr,tr⟩,tr⟩,⟨tr,(L0 k).ok⟩,tr,tr⟩ (fn k)
end G.slices_Equal_s_api_Look_api_Look
namespace G.steps_CheckMemory
abbrev ps : Mk := sL 8 []
abbrev rs : Mk := sI []
abbrev c0 : Mk := sL 8 (n2 (sI (sX [.str,.str,.sl 3,jI,.str,.sl 3,.sl 3,jI] (n1 (sI (n3 (sL 8 (sI (sI (nM 54 []))))))))))
abbrev c1 : Mk := sL 8 (n2 (sI (sX [.str,.str,.sl 3,jI,.str,.sl 3,.sl 3,jI] (n5 (sL 8 (sI (sI (nM 54 []))))))))
abbrev c2 : Mk := sL 8 (n2 (sI (sX [.str,.str,.sl 3,jI,.str,.sl 3,.sl 3,jI] (n5 (sL 8 (sI (sI (nM 26 (sB (nM 27 []))))))))))
abbrev c3 : Mk := sL 8 (n2 (sI (sX [.str,.str,.sl 3,jI,.str,.sl 3,.sl 3,jI] (n5 (sL 8 (sI (sI (nM 31 (sB (nM 22 []))))))))))
abbrev z1 : Mk := sL 8 (n9 (sL 8 (sI (sI (nM 54 [])))))
abbrev e0 : Mk := nM 67 []
abbrev mr : Mk := n2 (sI (nM 64 []))
abbrev T3 := Int × U1
abbrev T2 := LL × LL × Int × Int × U1
abbrev T1 := LL × Int × (BA × BA × LL × Int × BA × LL × LL × Int × U1) × LL × Int × Int × U1
abbrev T0 := LL × Int × (BA × BA × LL × Int × BA × LL × LL × Int × U1) × LL × Int × Int × Bool × U1
def C (k : Nat) : List (Ent PG R) := [blob_IsPath.en k,blob_IsDigest.en k,action_CheckLooks.en k,action_CheckResult.en k,slices_Equal_s_api_Look_api_Look.en k]
def q3 (k : Nat) (Jnrm : Kt R T2) (Jret : Kt R T3) (x : T0) (S : LL) : Option R :=
 ifB x.2.2.2.2.2.2.1 (Jret ((12 : Int),()) S) (ifB (decide (x.2.1 > 0)) (idxL x.1 (IntKind.wrap .i64 (x.2.1 - 1)) fun v17 => asStr (leaf v17 0) fun s18 => ifB (strLt x.2.2.1.1 s18 || strEq x.2.2.1.1 s18) (Jret ((8 : Int),()) S) (Jnrm (x.1,x.2.2.2.1,x.2.2.2.2.1,x.2.2.2.2.2.1,()) S)) (Jnrm (x.1,x.2.2.2.1,x.2.2.2.2.1,x.2.2.2.2.2.1,()) S))
def Q3 (k : Nat) : Pc PG R (su Tryz.f54 507083) := mkEnd T_ok (C k) _ c3 z1 (.cond (.seq .auto (.mask mr .auto)) (.seq (.drawn [] [0,1,2,3,4,5,6,7,8,9,10,11,12,13]) (.cond (.seq .auto (.mask mr .auto)) .auto))) ⟨⟨tr,tr⟩,(drawn_an (by kernel_rfl)),⟨tr,tr⟩,tr⟩ (fun x S K => q3 k (kN K z1) (kR K mr) x S)
def q2 (k : Nat) (Jnrm : Kt R T2) (Jret : Kt R T3) (x : T0) (S : LL) : Option R :=
 ifB x.2.2.2.2.2.2.1 (Jret ((11 : Int),()) S) (slices_Equal_s_api_Look_api_Look.fn k (x.2.2.1.2.2.1,x.2.2.1.2.2.2.2.2.2.1,()) S fun r16 S => q3 k Jnrm Jret (x.1,x.2.1,x.2.2.1,x.2.2.2.1,x.2.2.2.2.1,x.2.2.2.2.2.1,(!r16.1),()) S)
def Q2 (k : Nat) : Pc PG R (su Tryz.f54 113867) := mkEnd T_ok (C k) _ c2 z1 (.cond (.seq .auto (.mask mr .auto)) (.seq .auto (.piece (Q3 k).h))) ⟨⟨tr,tr⟩,tr,(Q3 k).ok⟩ (fun x S K => q2 k (kN K z1) (kR K mr) x S)
def q0 (k : Nat) (Jnrm : Kt R T1) (Jret : Kt R T3) (x : (LL × Int × (BA × BA × LL × Int × BA × LL × LL × Int × U1) × Int × LL × Int × Int × U1)) (S : LL) : Option R :=
 ifB (x.2.2.2.1 != 0) (Jret (x.2.2.2.1,()) S) (Jnrm (x.1,x.2.1,x.2.2.1,x.2.2.2.2) S)
def Q0 (k : Nat) : Pc PG R (su Tryz.f54 56523) := mkEnd T_ok (C k) _ c0 c1 (.seq .auto (.cond (.seq .auto (.mask mr .auto)) .auto)) ⟨tr,⟨tr,tr⟩,tr⟩ (fun x S K => q0 k (kN K c1) (kR K mr) x S)
def q1 (k : Nat) (Jnrm : Kt R T2) (Jret : Kt R T3) (x : T1) (S : LL) : Option R :=
 q2 k Jnrm Jret (x.1,x.2.1,x.2.2.1,x.2.2.2.1,x.2.2.2.2.1,x.2.2.2.2.2.1,(x.2.2.1.2.2.2.1 != 0),()) S
def Q1 (k : Nat) : Pc PG R (su Tryz.f54 31947) := mkEnd T_ok (C k) _ c1 z1 (.block (.seq .auto (.piece (Q2 k).h))) ⟨tr,(Q2 k).ok⟩ (fun x S K => q1 k (kN K z1) (kR K mr) x S)
def b0 (k : Nat) (J0 : Kt R (U1)) (Jret : Kt R T3) (rec : Kt R T2) (x : T2) (S : LL) : Option R :=
 ifB (decide (x.2.2.2.1 < x.2.2.1)) (idxL x.2.1 x.2.2.2.1 fun v1 => mat 8 v1 fun c2 => asStr (c2.getD 0 .any) fun s3 => asStr (c2.getD 1 .any) fun s4 => asSl 3 (c2.getD 2 .any) fun l5 => asInt .i64 (c2.getD 3 .any) fun n6 => asStr (c2.getD 4 .any) fun s7 => asSl 3 (c2.getD 5 .any) fun l8 => asSl 3 (c2.getD 6 .any) fun l9 => asInt .i64 (c2.getD 7 .any) fun n10 => blob_IsPath.fn k (s3,()) S fun r11 S => ifB (!r11.1) (Jret ((3 : Int),()) S) (blob_IsDigest.fn k (s4,()) S fun r12 S => ifB (!r12.1) (Jret ((3 : Int),()) S) (action_CheckLooks.fn k (l5,()) S fun r13 S => ifB (r13.1 != 0) (Jret r13 S) (action_CheckResult.fn k ((n6,s7,l8,l9,n10,()),()) S fun r14 S => q0 k (fun o15 S => q1 k (fun o23 S => rec (o23.1,o23.2.1,o23.2.2.1,(IntKind.wrap .i64 (o23.2.2.2.1 + 1)),()) S) Jret o15 S) Jret (x.1,x.2.2.2.1,(s3,s4,l5,n6,s7,l8,l9,n10,()),r14.1,x.2) S)))) (J0 (()) S)
def L0 (k : Nat) : Pc PG R (.loop (su Tryz.f54 75)) := mkLoop T_ok (C k) _ z1 k (.seq .auto (.seq (.cond .auto (.mask e0 .auto)) (.seq (.block (.seq .auto (.seq (.seq .auto (.cond (.seq .auto (.mask mr .auto)) .auto)) (.seq (.seq .auto (.seq .auto (.cond (.seq .auto (.mask mr .auto)) .auto))) (.seq (.seq .auto (.piece (Q0 k).h)) (.piece (Q1 k).h)))))) .auto))) ⟨tr,⟨tr,tr⟩,⟨tr,⟨tr,⟨tr,tr⟩,tr⟩,⟨tr,tr,⟨tr,tr⟩,tr⟩,⟨tr,(Q0 k).ok⟩,(Q1 k).ok⟩,tr⟩ (fun K => b0 k (kX K 0 e0) (kR K mr))
def fn (k : Nat) (x : (LL × U1)) (S : LL) (K : Kt R T3) : Option R :=
 ifB (decide ((x.1.length : Int) > 500)) (K (2,()) S) (rounds (b0 k (fun o26 S => K (0,()) S) K) k (x.1,x.1,(x.1.length : Int),0,()) S)
def en (k : Nat) : Ent PG R := mkFn T_ok Tryz.func54 ps rs (C k) (.seq .auto (.seq (.seq .auto (.cond (.seq .auto (.mask mr .auto)) .auto)) (.seq (.seq .auto (.block (.piece (L0 k).h))) (.seq .auto (.mask mr .auto))))) ⟨tr,⟨tr,⟨tr,tr⟩,tr⟩,⟨tr,(L0 k).ok⟩,tr,tr⟩ (fn k)
end G.steps_CheckMemory
namespace G.slices_Clone_s_api_Memory_api_Memory_obj
abbrev ps : Mk := sR []
abbrev rs : Mk := sR []
abbrev mr : Mk := n2 (sR (n5 []))
def C (k : Nat) : List (Ent PG R) := []
def fn (k : Nat) (x : (LV × U1)) (S : LL) (K : Kt R (LV × U1)) : Option R :=
 isNil (dup x.1) fun b1 => ifB (b1 == true) (K (.nilsl,()) S) (newObj S (.obj 62 []) fun i2 S => asSl 8 (dup x.1) fun l5 => appO 62 8 136 S (.osl i2 0 8 0) l5 fun v4 S => K (v4,()) S)
def en (k : Nat) : Ent PG R := mkFn T_ok Tryz.func87 ps rs (C k) (.seq .auto (.seq (.seq (.own [(0,2)]) (.cond (.seq .auto (.mask mr .auto)) .auto)) (.seq (.own [(0,1),(1,2),(2,1)]) (.mask mr .auto)))) ⟨tr,⟨tr,⟨tr,tr⟩,tr⟩,tr,tr⟩ (fn k)
end G.slices_Clone_s_api_Memory_api_Memory_obj
namespace G.slices_Clone_s_api_Look_api_Look
abbrev ps : Mk := sL 3 []
abbrev rs : Mk := sO 124 3 []
abbrev mr : Mk := n2 (sO 124 3 (n5 []))
def C (k : Nat) : List (Ent PG R) := []
def fn (k : Nat) (x : (LL × U1)) (S : LL) (K : Kt R (LL × U1)) : Option R :=
 isNil (.sl 3 x.1) fun b1 => ifB (b1 == true) (K ([],()) S) (app 40 [] x.1 fun l2 => K (l2,()) S)
def en (k : Nat) : Ent PG R := mkFn T_ok Tryz.func88 ps rs (C k) (.seq .auto (.seq (.seq .auto (.cond (.seq .auto (.mask mr .auto)) .auto)) (.seq .auto (.mask mr .auto)))) ⟨tr,⟨tr,⟨tr,tr⟩,tr⟩,tr,tr⟩ (fn k)
def anC : An R := .seq .auto (.seq (.seq .auto (.cond (.seq .auto (.mask mr .auto)) .auto)) (.seq .auto (.mask mr .auto)))
theorem body : HSound PG 88 (lbody T (entC (C (R := R) 0)) anC Tryz.f88) :=
 lbody_ok T_ok (entC_ok _) (fun c hc => by
  have : c = cd Tryz.f88 := by
   have e : Tryz.f88.body = some (cd Tryz.f88) := by kernel_rfl
   rw [e] at hc; cases hc; rfl
  subst this
  exact ⟨tr,⟨tr,⟨tr,tr⟩,tr⟩,tr,tr⟩) Tryz.func88 (enters_ok Tryz.func88 (by kernel_rfl) (by kernel_rfl))
end G.slices_Clone_s_api_Look_api_Look
namespace G.slices_Clone_s_api_Look_api_Look_c
abbrev ps : Mk := [some (.lf (.sl 3))]
abbrev rs : Mk := [some (.lf (.own 124 3))]
def fn (_k : Nat) (x : LL × U1) (S : LL) (K : Kt R (LL × U1)) : Option R := handF ps rs (cloneF 40) x S K
theorem ok (k : Nat) : HSound PG 88 (hT (R := R) ps fun x S K => fn k x S fun r S => K (resE rs r) S) :=
 hand_ok (enters_ok Tryz.func88 (by kernel_rfl) (by kernel_rfl)) (ps := ps) (rs := rs) (g := cloneF 40) fun x r S hr => by
  obtain ⟨xs,u⟩ := x
  obtain ⟨rfl,hd⟩ := cloneF_some hr
  refine LCalls.nilCases (fun h => ?_) ?_
  ·have h : xs = [] := h
   subst h
   exact slices_Clone_s_api_Look_api_Look.body.calls (by kernel_rfl)
  ·exact slices_Clone_s_api_Look_api_Look.body.calls (Eq.trans (b := app 40 [] xs fun l => some (.own 124 3 l,S)) (by kernel_rfl) (by rw [app_at hd]; rfl))
def en (k : Nat) : Ent PG R := ⟨88,_,ok k⟩
end G.slices_Clone_s_api_Look_api_Look_c
namespace G.slices_Clone_s_api_File_api_File_obj
abbrev ps : Mk := sR []
abbrev rs : Mk := sR []
abbrev mr : Mk := n2 (sR (n5 []))
def C (k : Nat) : List (Ent PG R) := []
def fn (k : Nat) (x : (LV × U1)) (S : LL) (K : Kt R (LV × U1)) : Option R :=
 isNil (dup x.1) fun b1 => ifB (b1 == true) (K (.nilsl,()) S) (newObj S (.obj 182 []) fun i2 S => asSl 3 (dup x.1) fun l5 => appO 182 3 48 S (.osl i2 0 3 0) l5 fun v4 S => K (v4,()) S)
def en (k : Nat) : Ent PG R := mkFn T_ok Tryz.func171 ps rs (C k) (.seq .auto (.seq (.seq (.own [(0,2)]) (.cond (.seq .auto (.mask mr .auto)) .auto)) (.seq (.own [(0,1),(1,2),(2,1)]) (.mask mr .auto)))) ⟨tr,⟨tr,⟨tr,tr⟩,tr⟩,tr,tr⟩ (fn k)
end G.slices_Clone_s_api_File_api_File_obj
namespace G.slices_Clone_s_byte_byte
abbrev ps : Mk := sL 1 []
abbrev rs : Mk := sO 5 1 []
abbrev mr : Mk := n2 (sO 5 1 (n5 []))
def C (k : Nat) : List (Ent PG R) := []
def fn (k : Nat) (x : (LL × U1)) (S : LL) (K : Kt R (LL × U1)) : Option R :=
 isNil (.sl 1 x.1) fun b1 => ifB (b1 == true) (K ([],()) S) (app 1 [] x.1 fun l2 => K (l2,()) S)
def en (k : Nat) : Ent PG R := mkFn T_ok Tryz.func172 ps rs (C k) (.seq .auto (.seq (.seq .auto (.cond (.seq .auto (.mask mr .auto)) .auto)) (.seq .auto (.mask mr .auto)))) ⟨tr,⟨tr,⟨tr,tr⟩,tr⟩,tr,tr⟩ (fn k)
def anC : An R := .seq .auto (.seq (.seq .auto (.cond (.seq .auto (.mask mr .auto)) .auto)) (.seq .auto (.mask mr .auto)))
theorem body : HSound PG 172 (lbody T (entC (C (R := R) 0)) anC Tryz.f172) :=
 lbody_ok T_ok (entC_ok _) (fun c hc => by
  have : c = cd Tryz.f172 := by
   have e : Tryz.f172.body = some (cd Tryz.f172) := by kernel_rfl
   rw [e] at hc; cases hc; rfl
  subst this
  exact ⟨tr,⟨tr,⟨tr,tr⟩,tr⟩,tr,tr⟩) Tryz.func172 (enters_ok Tryz.func172 (by kernel_rfl) (by kernel_rfl))
end G.slices_Clone_s_byte_byte
namespace G.slices_Clone_s_byte_byte_c
abbrev ps : Mk := [some (.lf (.sl 1))]
abbrev rs : Mk := [some (.lf (.own 5 1))]
def fn (_k : Nat) (x : LL × U1) (S : LL) (K : Kt R (LL × U1)) : Option R := handF ps rs (cloneF 1) x S K
theorem ok (k : Nat) : HSound PG 172 (hT (R := R) ps fun x S K => fn k x S fun r S => K (resE rs r) S) :=
 hand_ok (enters_ok Tryz.func172 (by kernel_rfl) (by kernel_rfl)) (ps := ps) (rs := rs) (g := cloneF 1) fun x r S hr => by
  obtain ⟨xs,u⟩ := x
  obtain ⟨rfl,hd⟩ := cloneF_some hr
  refine LCalls.nilCases (fun h => ?_) ?_
  ·have h : xs = [] := h
   subst h
   exact slices_Clone_s_byte_byte.body.calls (by kernel_rfl)
  ·exact slices_Clone_s_byte_byte.body.calls (Eq.trans (b := app 1 [] xs fun l => some (.own 5 1 l,S)) (by kernel_rfl) (by rw [app_at hd]; rfl))
def en (k : Nat) : Ent PG R := ⟨172,_,ok k⟩
end G.slices_Clone_s_byte_byte_c
namespace G.blob_Own
abbrev ps : Mk := sR []
abbrev rs : Mk := sL 3 []
abbrev e0 : Mk := n3 (sR (nM 20 []))
abbrev m0 : Mk := n3 (sR (n4 (sI (sI (nM 14 [])))))
abbrev mr : Mk := n2 (sL 3 (nM 21 []))
abbrev T0 := LV × Int × Int × U1
def C (k : Nat) : List (Ent PG R) := [slices_Clone_s_api_File_api_File_obj.en k,slices_Clone_s_byte_byte_c.en k]
def b0 (k : Nat) (J0 : Kt R (LV × U1)) (rec : Kt R T0) (x : T0) (S : LL) : Option R :=
 ifB (decide (x.2.2.1 < x.2.1)) (oslOr (dup x.1) (fun i4 p5 z7 n6 => ifB (Nat.beq z7 3) (idxN n6 x.2.2.1 fun v3 => objAt S i4 fun ty c8 => ldSl 1 c8 ((p5 + v3 * z7) + 2) fun l9 => slices_Clone_s_byte_byte_c.fn k (l9,()) S fun r10 S => oslOr (dup x.1) (fun i12 p13 z15 n14 => ifB (Nat.beq z15 3) (idxN n14 x.2.2.1 fun v11 => objAt S i12 fun ty c16 => stO c16 ((p13 + v11 * z15) + 2) [(.own 5 1 r10.1)] fun c17 => setS (S.set i12 (ty c17)) fun S => rec (x.1,x.2.1,(IntKind.wrap .i64 (x.2.2.1 + 1)),()) S) none) none) none) none) (J0 (x.1,()) S)
def L0 (k : Nat) : Pc PG R (.loop (su Tryz.f114 75)) := mkLoop T_ok (C k) _ m0 k (.seq .auto (.seq (.cond .auto (.mask e0 .auto)) (.seq (.block (.seq .auto (.own [(0,2),(2,2),(4,1),(6,1),(8,1),(10,2)]))) .auto))) ⟨tr,⟨tr,tr⟩,⟨tr,tr⟩,tr⟩ (fun K => b0 k (kX K 0 e0))
def fn0 (k : Nat) (x : (LV × U1)) (S : LL) (K : Kt R (LL × U1)) : Option R :=
 slices_Clone_s_api_File_api_File_obj.fn k ((dup x.1),()) S fun r1 S => lenO (dup r1.1) fun n2 => rounds (b0 k (fun o18 S => frzO 3 o18.1 S fun c19 S => K (c19,()) S)) k (r1.1,(n2 : Int),0,()) S
def en0 (k : Nat) : Ent PG R := mkFn T_ok Tryz.func114 ps rs (C k) (.seq .auto (.seq (.own [(0,2)]) (.seq (.seq (.own [(0,2),(1,1)]) (.block (.piece (L0 k).h))) (.seq (.own [(0,1)]) (.frr 2 3 (.mask mr .auto)))))) ⟨tr,tr,⟨tr,(L0 k).ok⟩,tr,tr⟩ (fn0 k)
def fn (k : Nat) (x : (LV × U1)) (S : LL) (K : Kt R (LL × U1)) : Option R := popK rs 6 S (fn0 k x S fun r S => some (resE rs r,S)) K
def en (k : Nat) : Ent PG R := mkPop (rs := rs) (en0 k).ok
end G.blob_Own
namespace G.blob_Own_n
def fn (k : Nat) (x : LL × U1) (S : LL) (K : Kt R (LL × U1)) : Option R := nilK blob_Own.rs 3 x.1 (fun v => blob_Own.fn k (v,()) S fun r S => some (resE blob_Own.rs r,S)) K
def en (k : Nat) : Ent PG R := mkNil blob_Own.rs 3 (blob_Own.en k).ok
end G.blob_Own_n
namespace G.steps_ownResult
abbrev ps : Mk := sA [jI,.str,.sl 3,.sl 3,jI] []
abbrev rs : Mk := sA [jI,.str,.sl 3,.sl 3,jI] []
abbrev mr : Mk := n2 (sX [jI,.str,.sl 3,.sl 3,jI] (n9 []))
abbrev T0 := (Int × BA × LL × LL × Int × U1) × U1
def C (k : Nat) : List (Ent PG R) := [slices_Clone_s_api_Look_api_Look_c.en k,blob_Own_n.en k]
def fn (k : Nat) (x : T0) (S : LL) (K : Kt R T0) : Option R :=
 blob_Own_n.fn k (x.1.2.2.1,()) S fun r1 S => slices_Clone_s_api_Look_api_Look_c.fn k (x.1.2.2.2.1,()) S fun r2 S => K ((x.1.1,x.1.2.1,r1.1,r2.1,x.1.2.2.2.2),()) S
def en (k : Nat) : Ent PG R := mkFn T_ok Tryz.func89 ps rs (C k) (.seq .auto (.seq (.drawn [] [0,1,3,4,2,6,5,7,8,9]) (.seq .auto (.mask mr .auto)))) ⟨tr,(drawn_an (by kernel_rfl)),tr,tr⟩ (fn k)
end G.steps_ownResult
namespace G.steps_own
abbrev ps : Mk := sR []
abbrev rs : Mk := sR []
abbrev e0 : Mk := n3 (sR (nM 30 []))
abbrev m0 : Mk := n3 (sR (n4 (sI (sI (nM 24 [])))))
abbrev mr : Mk := n2 (sR (nM 31 []))
abbrev T0 := LV × Int × Int × U1
def C (k : Nat) : List (Ent PG R) := [slices_Clone_s_api_Memory_api_Memory_obj.en k,slices_Clone_s_api_Look_api_Look_c.en k,steps_ownResult.en k]
def b0 (k : Nat) (J0 : Kt R (LV × U1)) (rec : Kt R T0) (x : T0) (S : LL) : Option R :=
 ifB (decide (x.2.2.1 < x.2.1)) (oslOr (dup x.1) (fun i4 p5 z7 n6 => ifB (Nat.beq z7 8) (idxN n6 x.2.2.1 fun v3 => oslOr (dup x.1) (fun i9 p10 z12 n11 => ifB (Nat.beq z12 8) (idxN n11 x.2.2.1 fun v8 => objAt S i4 fun ty c13 => ldSl 3 c13 ((p5 + v3 * z7) + 2) fun l14 => slices_Clone_s_api_Look_api_Look_c.fn k (l14,()) S fun r15 S' => quiR S S' fun S => objAt S i9 fun ty c16 => ifB (Nat.ble (((p10 + v8 * z12) + 3) + 5) c16.length) (asInt .i64 ((c16.map dupL).getD ((p10 + v8 * z12) + 3) .any) fun n17 => asStr ((c16.map dupL).getD (((p10 + v8 * z12) + 3) + 1) .any) fun s18 => asSl 3 ((c16.map dupL).getD ((((p10 + v8 * z12) + 3) + 1) + 1) .any) fun l19 => asSl 3 ((c16.map dupL).getD (((((p10 + v8 * z12) + 3) + 1) + 1) + 1) .any) fun l20 => asInt .i64 ((c16.map dupL).getD ((((((p10 + v8 * z12) + 3) + 1) + 1) + 1) + 1) .any) fun n21 => steps_ownResult.fn k ((n17,s18,l19,l20,n21,()),()) S fun r22 S' => quiR S S' fun S => oslOr (dup x.1) (fun i24 p25 z27 n26 => ifB (Nat.beq z27 8) (idxN n26 x.2.2.1 fun v23 => objAt S i24 fun ty c28 => stO c28 ((p25 + v23 * z27) + 2) [(.own 124 3 r15.1)] fun c29 => setS (S.set i24 (ty c29)) fun S => oslOr (dup x.1) (fun i31 p32 z34 n33 => ifB (Nat.beq z34 8) (idxN n33 x.2.2.1 fun v30 => objAt S i31 fun ty c35 => stO c35 ((p32 + v30 * z34) + 3) [(.int .i64 r22.1.1),(.str r22.1.2.1),(.sl 3 r22.1.2.2.1),(.sl 3 r22.1.2.2.2.1),(.int .i64 r22.1.2.2.2.2.1)] fun c36 => setS (S.set i31 (ty c36)) fun S => rec (x.1,x.2.1,(IntKind.wrap .i64 (x.2.2.1 + 1)),()) S) none) none) none) none) none) none) none) none) none) (J0 (x.1,()) S)
def L0 (k : Nat) : Pc PG R (.loop (su Tryz.f55 75)) := mkLoop T_ok (C k) _ m0 k (.seq .auto (.seq (.cond .auto (.mask e0 .auto)) (.seq (.block (.seq .auto (.quiet [(0,2),(2,2),(4,2),(6,1),(8,1),(10,2),(12,1),(14,1),(16,1),(18,2),(19,1),(21,1)] [0,1,2,3,4,5,6,7,10,11,12,13,8,9,14,15,16,17,18,19,20,21]))) .auto))) ⟨tr,⟨tr,tr⟩,⟨tr,(quiet_an (by kernel_rfl))⟩,tr⟩ (fun K => b0 k (kX K 0 e0))
def fn (k : Nat) (x : (LV × U1)) (S : LL) (K : Kt R (LV × U1)) : Option R :=
 slices_Clone_s_api_Memory_api_Memory_obj.fn k ((dup x.1),()) S fun r1 S => lenO (dup r1.1) fun n2 => rounds (b0 k K) k (r1.1,(n2 : Int),0,()) S
def en (k : Nat) : Ent PG R := mkFn T_ok Tryz.func55 ps rs (C k) (.seq .auto (.seq (.own [(0,2)]) (.seq (.seq (.own [(0,2),(1,1)]) (.block (.piece (L0 k).h))) (.seq (.own [(0,1)]) (.mask mr .auto))))) ⟨tr,tr,⟨tr,(L0 k).ok⟩,tr,tr⟩ (fn k)
end G.steps_own
namespace G.math_bits_Len64
abbrev ps : Mk := sh (.lf (.int .u64)) []
abbrev rs : Mk := sI []
abbrev c0 : Mk := sh (.lf (.int .u64)) (n1 (sI (nM 22 [])))
abbrev c2 : Mk := sh (.lf (.int .u64)) (n1 (sI (nM 11 (sB (nX [])))))
abbrev c5 : Mk := sh (.lf (.int .u64)) (n1 (sI (n5 (sB (nM 16 [])))))
abbrev mr : Mk := n2 (sI (nM 22 []))
abbrev T2 := Int × U1
abbrev T1 := Int × Int × U1
abbrev T0 := Int × Int × Bool × U1
def C (k : Nat) : List (Ent PG R) := []
def q3 (k : Nat) (Jnrm : Kt R T1)  (x : T1) (S : LL) : Option R :=
 Jnrm (x.1,(IntKind.wrap .i64 (x.2.1 + 8)),()) S
def Q3 (k : Nat) : Pc PG R (su Tryz.f124 215) := mkEnd T_ok (C k) _ c0 c0 (.auto) tr (fun x S K => q3 k (kN K c0) x S)
def q6 (k : Nat) (Jnrm : Kt R T1)  (x : T1) (S : LL) : Option R :=
 Jnrm (x.1,(IntKind.wrap .i64 (x.2.1 + 16)),()) S
def Q6 (k : Nat) : Pc PG R (su Tryz.f124 107) := mkEnd T_ok (C k) _ c0 c0 (.auto) tr (fun x S K => q6 k (kN K c0) x S)
def q2 (k : Nat) (Jnrm : Kt R T1)  (x : T0) (S : LL) : Option R :=
 ifB x.2.2.1 (ifB (decide ((8 : Int) < 0)) (none) (q3 k Jnrm ((shI .shr .u64 x.1 (8 : Int)),x.2.1,()) S)) (Jnrm (x.1,x.2.1,()) S)
def Q2 (k : Nat) : Pc PG R (su Tryz.f124 55) := mkEnd T_ok (C k) _ c2 c0 (.cond (.seq .auto (.piece (Q3 k).h)) .auto) ⟨⟨tr,(Q3 k).ok⟩,tr⟩ (fun x S K => q2 k (kN K c0) x S)
def q0 (k : Nat) (Jret : Kt R T2) (x : T1) (S : LL) : Option R :=
 idxStr (bs [0,1,2,2,3,3,3,3,4,4,4,4,4,4,4,4,5,5,5,5,5,5,5,5,5,5,5,5,5,5,5,5,6,6,6,6,6,6,6,6,6,6,6,6,6,6,6,6,6,6,6,6,6,6,6,6,6,6,6,6,6,6,6,6,7,7,7,7,7,7,7,7,7,7,7,7,7,7,7,7,7,7,7,7,7,7,7,7,7,7,7,7,7,7,7,7,7,7,7,7,7,7,7,7,7,7,7,7,7,7,7,7,7,7,7,7,7,7,7,7,7,7,7,7,7,7,7,7,8,8,8,8,8,8,8,8,8,8,8,8,8,8,8,8,8,8,8,8,8,8,8,8,8,8,8,8,8,8,8,8,8,8,8,8,8,8,8,8,8,8,8,8,8,8,8,8,8,8,8,8,8,8,8,8,8,8,8,8,8,8,8,8,8,8,8,8,8,8,8,8,8,8,8,8,8,8,8,8,8,8,8,8,8,8,8,8,8,8,8,8,8,8,8,8,8,8,8,8,8,8,8,8,8,8,8,8,8,8,8,8,8,8,8,8,8,8,8,8,8,8,8,8,8,8,8,8]) (IntKind.wrap .u8 x.1) fun c5 => Jret ((IntKind.wrap .i64 (x.2.1 + (IntKind.wrap .i64 c5))),()) S
def Q0 (k : Nat) : Pc PG R (su Tryz.f124 31) := mkCut T_ok (C k) _ c0 (.seq .auto (.mask mr .auto)) ⟨tr,tr⟩ (fun x S K => q0 k (kR K mr) x S)
def q5 (k : Nat) (Jnrm : Kt R T1)  (x : T0) (S : LL) : Option R :=
 ifB x.2.2.1 (ifB (decide ((16 : Int) < 0)) (none) (q6 k Jnrm ((shI .shr .u64 x.1 (16 : Int)),x.2.1,()) S)) (Jnrm (x.1,x.2.1,()) S)
def Q5 (k : Nat) : Pc PG R (su Tryz.f124 27) := mkEnd T_ok (C k) _ c5 c0 (.cond (.seq .auto (.piece (Q6 k).h)) .auto) ⟨⟨tr,(Q6 k).ok⟩,tr⟩ (fun x S K => q5 k (kN K c0) x S)
def q1 (k : Nat) (Jret : Kt R T2) (x : T1) (S : LL) : Option R :=
 q2 k (fun o4 S => q0 k Jret o4 S) (x.1,x.2.1,(decide (x.1 ≥ 256)),()) S
def Q1 (k : Nat) : Pc PG R (su Tryz.f124 15) := mkCut T_ok (C k) _ c0 (.seq (.seq .auto (.piece (Q2 k).h)) (.piece (Q0 k).h)) ⟨⟨tr,(Q2 k).ok⟩,(Q0 k).ok⟩ (fun x S K => q1 k (kR K mr) x S)
def q4 (k : Nat) (Jret : Kt R T2) (x : T1) (S : LL) : Option R :=
 q5 k (fun o2 S => q1 k Jret o2 S) (x.1,x.2.1,(decide (x.1 ≥ 65536)),()) S
def Q4 (k : Nat) : Pc PG R (su Tryz.f124 7) := mkCut T_ok (C k) _ c0 (.seq (.seq .auto (.piece (Q5 k).h)) (.piece (Q1 k).h)) ⟨⟨tr,(Q5 k).ok⟩,(Q1 k).ok⟩ (fun x S K => q4 k (kR K mr) x S)
def fn (k : Nat) (x : T2) (S : LL) (K : Kt R T2) : Option R :=
 ifB (decide (x.1 ≥ 4294967296)) (ifB (decide ((32 : Int) < 0)) (none) (q4 k K ((shI .shr .u64 x.1 (32 : Int)),32,()) S)) (q4 k K (x.1,0,()) S)
def en (k : Nat) : Ent PG R := mkFn T_ok Tryz.func124 ps rs (C k) (.seq .auto (.seq (.seq .auto (.cond (.seq .auto .auto) .auto)) (.piece (Q4 k).h))) ⟨tr,⟨tr,⟨tr,tr⟩,tr⟩,(Q4 k).ok⟩ (fn k)
end G.math_bits_Len64
namespace G.math_bits_Len
abbrev ps : Mk := sh (.lf (.int .u64)) []
abbrev rs : Mk := sI []
abbrev mr : Mk := n2 (sI (n5 []))
def C (k : Nat) : List (Ent PG R) := [math_bits_Len64.en k]
def fn (k : Nat) (x : (Int × U1)) (S : LL) (K : Kt R (Int × U1)) : Option R :=
 math_bits_Len64.fn k x S K
def en (k : Nat) : Ent PG R := mkFn T_ok Tryz.func91 ps rs (C k) (.seq .auto (.seq (.cond (.seq .auto (.mask mr .auto)) .auto) (.seq .auto (.mask mr .auto)))) ⟨tr,⟨⟨tr,tr⟩,tr⟩,tr,tr⟩ (fn k)
end G.math_bits_Len
namespace G.steps_Joined_1
abbrev ps : Mk := sA [.str,.str,.sl 3,jI,.str,.sl 3,.sl 3,jI] (sA [.str,.str,.sl 3,jI,.str,.sl 3,.sl 3,jI] [])
abbrev rs : Mk := sI []
abbrev mr : Mk := n4 (sI (n5 []))
abbrev T0 := BA × BA × LL × Int × BA × LL × LL × Int × U1
def C (k : Nat) : List (Ent PG R) := [strings_Compare.en k]
def fn (k : Nat) (x : (T0 × T0 × U1)) (S : LL) (K : Kt R (Int × U1)) : Option R :=
 strings_Compare.fn k (x.1.1,x.2.1.1,()) S K
def en (k : Nat) : Ent PG R := mkFn T_ok Tryz.func57 ps rs (C k) (.seq .auto (.seq .auto (.mask mr .auto))) ⟨tr,tr,tr⟩ (fn k)
end G.steps_Joined_1
namespace G.slices_insertionSortCmpFunc_api_Memory_at_steps_Joined_1
abbrev ps : Mk := sR (sI (sI (sh (.fn 57 []) [])))
abbrev rs : Mk := []
abbrev c0 : Mk := sR (sI (sI (sh (.fn 57 []) (n4 (sI (sI (nM 43 [])))))))
abbrev e0 : Mk := nM 53 []
abbrev e2 : Mk := sR (sI (sI (sh (.fn 57 []) (n4 (sI (nM 44 []))))))
abbrev T1 := LV × Int × Int × (U1) × Int × U1
abbrev T0 := LV × Int × Int × (U1) × Int × Int × U1
def C (k : Nat) : List (Ent PG R) := [steps_Joined_1.en k]
def q0 (k : Nat) (Jnrm : Kt R T0)  (x : T0) (S : LL) : Option R :=
 Jnrm (x.1,x.2.1,x.2.2.1,(()),x.2.2.2.2.1,(IntKind.wrap .i64 (x.2.2.2.2.2.1 - 1)),()) S
def Q0 (k : Nat) : Pc PG R (su Tryz.f115 3657) := mkEnd T_ok (C k) _ c0 c0 (.auto) tr (fun x S K => q0 k (kN K c0) x S)
def b1 (k : Nat) (J2 : Kt R T1) (rec : Kt R T0) (x : T0) (S : LL) : Option R :=
 ifB (decide (x.2.2.2.2.2.1 > x.2.1)) (oslOr (dup x.1) (fun i2 p3 z5 n4 => ifB (Nat.beq z5 8) (idxN n4 x.2.2.2.2.2.1 fun v1 => oslOr (dup x.1) (fun i7 p8 z10 n9 => ifB (Nat.beq z10 8) (idxN n9 (IntKind.wrap .i64 (x.2.2.2.2.2.1 - 1)) fun v6 => objAt S i2 fun ty c11 => ifB (Nat.ble ((p3 + v1 * z5) + 8) c11.length) (asStr ((c11.map dupL).getD (p3 + v1 * z5) .any) fun s12 => asStr ((c11.map dupL).getD ((p3 + v1 * z5) + 1) .any) fun s13 => asSl 3 ((c11.map dupL).getD (((p3 + v1 * z5) + 1) + 1) .any) fun l14 => asInt .i64 ((c11.map dupL).getD ((((p3 + v1 * z5) + 1) + 1) + 1) .any) fun n15 => asStr ((c11.map dupL).getD (((((p3 + v1 * z5) + 1) + 1) + 1) + 1) .any) fun s16 => asSl 3 ((c11.map dupL).getD ((((((p3 + v1 * z5) + 1) + 1) + 1) + 1) + 1) .any) fun l17 => asSl 3 ((c11.map dupL).getD (((((((p3 + v1 * z5) + 1) + 1) + 1) + 1) + 1) + 1) .any) fun l18 => asInt .i64 ((c11.map dupL).getD ((((((((p3 + v1 * z5) + 1) + 1) + 1) + 1) + 1) + 1) + 1) .any) fun n19 => objAt S i7 fun ty c20 => ifB (Nat.ble ((p8 + v6 * z10) + 8) c20.length) (asStr ((c20.map dupL).getD (p8 + v6 * z10) .any) fun s21 => asStr ((c20.map dupL).getD ((p8 + v6 * z10) + 1) .any) fun s22 => asSl 3 ((c20.map dupL).getD (((p8 + v6 * z10) + 1) + 1) .any) fun l23 => asInt .i64 ((c20.map dupL).getD ((((p8 + v6 * z10) + 1) + 1) + 1) .any) fun n24 => asStr ((c20.map dupL).getD (((((p8 + v6 * z10) + 1) + 1) + 1) + 1) .any) fun s25 => asSl 3 ((c20.map dupL).getD ((((((p8 + v6 * z10) + 1) + 1) + 1) + 1) + 1) .any) fun l26 => asSl 3 ((c20.map dupL).getD (((((((p8 + v6 * z10) + 1) + 1) + 1) + 1) + 1) + 1) .any) fun l27 => asInt .i64 ((c20.map dupL).getD ((((((((p8 + v6 * z10) + 1) + 1) + 1) + 1) + 1) + 1) + 1) .any) fun n28 => steps_Joined_1.fn k ((s12,s13,l14,n15,s16,l17,l18,n19,()),(s21,s22,l23,n24,s25,l26,l27,n28,()),()) S fun r29 S => ifB (decide (r29.1 < 0)) (oslOr (dup x.1) (fun i31 p32 z34 n33 => ifB (Nat.beq z34 8) (idxN n33 (IntKind.wrap .i64 (x.2.2.2.2.2.1 - 1)) fun v30 => oslOr (dup x.1) (fun i36 p37 z39 n38 => ifB (Nat.beq z39 8) (idxN n38 x.2.2.2.2.2.1 fun v35 => objAt S i31 fun ty c40 => ifB (Nat.ble ((p32 + v30 * z34) + 8) c40.length) (asStr ((c40.map dupL).getD (p32 + v30 * z34) .any) fun s41 => asStr ((c40.map dupL).getD ((p32 + v30 * z34) + 1) .any) fun s42 => asSl 3 ((c40.map dupL).getD (((p32 + v30 * z34) + 1) + 1) .any) fun l43 => asInt .i64 ((c40.map dupL).getD ((((p32 + v30 * z34) + 1) + 1) + 1) .any) fun n44 => asStr ((c40.map dupL).getD (((((p32 + v30 * z34) + 1) + 1) + 1) + 1) .any) fun s45 => asSl 3 ((c40.map dupL).getD ((((((p32 + v30 * z34) + 1) + 1) + 1) + 1) + 1) .any) fun l46 => asSl 3 ((c40.map dupL).getD (((((((p32 + v30 * z34) + 1) + 1) + 1) + 1) + 1) + 1) .any) fun l47 => asInt .i64 ((c40.map dupL).getD ((((((((p32 + v30 * z34) + 1) + 1) + 1) + 1) + 1) + 1) + 1) .any) fun n48 => objAt S i36 fun ty c49 => ifB (Nat.ble ((p37 + v35 * z39) + 8) c49.length) (asStr ((c49.map dupL).getD (p37 + v35 * z39) .any) fun s50 => asStr ((c49.map dupL).getD ((p37 + v35 * z39) + 1) .any) fun s51 => asSl 3 ((c49.map dupL).getD (((p37 + v35 * z39) + 1) + 1) .any) fun l52 => asInt .i64 ((c49.map dupL).getD ((((p37 + v35 * z39) + 1) + 1) + 1) .any) fun n53 => asStr ((c49.map dupL).getD (((((p37 + v35 * z39) + 1) + 1) + 1) + 1) .any) fun s54 => asSl 3 ((c49.map dupL).getD ((((((p37 + v35 * z39) + 1) + 1) + 1) + 1) + 1) .any) fun l55 => asSl 3 ((c49.map dupL).getD (((((((p37 + v35 * z39) + 1) + 1) + 1) + 1) + 1) + 1) .any) fun l56 => asInt .i64 ((c49.map dupL).getD ((((((((p37 + v35 * z39) + 1) + 1) + 1) + 1) + 1) + 1) + 1) .any) fun n57 => oslOr (dup x.1) (fun i59 p60 z62 n61 => ifB (Nat.beq z62 8) (idxN n61 x.2.2.2.2.2.1 fun v58 => objAt S i59 fun ty c63 => stO c63 (p60 + v58 * z62) [(.str s41),(.str s42),(.sl 3 l43),(.int .i64 n44),(.str s45),(.sl 3 l46),(.sl 3 l47),(.int .i64 n48)] fun c64 => setS (S.set i59 (ty c64)) fun S => oslOr (dup x.1) (fun i66 p67 z69 n68 => ifB (Nat.beq z69 8) (idxN n68 (IntKind.wrap .i64 (x.2.2.2.2.2.1 - 1)) fun v65 => objAt S i66 fun ty c70 => stO c70 (p67 + v65 * z69) [(.str s50),(.str s51),(.sl 3 l52),(.int .i64 n53),(.str s54),(.sl 3 l55),(.sl 3 l56),(.int .i64 n57)] fun c71 => setS (S.set i66 (ty c71)) fun S => q0 k (fun o72 S => rec (o72.1,o72.2.1,o72.2.2.1,(()),o72.2.2.2.2) S) (x.1,x.2.1,x.2.2.1,(()),x.2.2.2.2) S) none) none) none) none) none) none) none) none) none) none) (J2 (x.1,x.2.1,x.2.2.1,(()),x.2.2.2.2.1,()) S)) none) none) none) none) none) none) (J2 (x.1,x.2.1,x.2.2.1,(()),x.2.2.2.2.1,()) S)
def L1 (k : Nat) : Pc PG R (.loop (su Tryz.f115 585)) := mkLoop T_ok (C k) _ c0 k (.seq (.seq (.drawn [(5,2),(7,1),(8,1),(9,2),(12,1),(13,1)] [0,1,2,3,4,5,6,7,9,10,11,12,8,13,14,15,16]) (.cond .auto (.mask e2 .auto))) (.seq (.block (.drawn [(0,2),(2,2),(5,2),(8,1),(9,1),(10,2),(12,1),(13,1),(14,1),(15,1),(16,1),(17,1)] [0,1,2,3,4,5,6,7,8,10,11,12,9,13,14,15,16,17])) (.piece (Q0 k).h))) ⟨⟨(drawn_an (by kernel_rfl)),tr,tr⟩,(drawn_an (by kernel_rfl)),(Q0 k).ok⟩ (fun K => b1 k (kX K 2 e2))
def b0 (k : Nat) (J0 : Kt R (U1)) (rec : Kt R T1) (x : T1) (S : LL) : Option R :=
 ifB (decide (x.2.2.2.2.1 < x.2.2.1)) (rounds (b1 k (fun o73 S => rec (o73.1,o73.2.1,o73.2.2.1,(()),(IntKind.wrap .i64 (o73.2.2.2.2.1 + 1)),()) S)) k (x.1,x.2.1,x.2.2.1,(()),x.2.2.2.2.1,x.2.2.2.2) S) (J0 (()) S)
def L0 (k : Nat) : Pc PG R (.loop (su Tryz.f115 9)) := mkLoop T_ok (C k) _ e2 k (.seq (.seq .auto (.cond .auto (.mask e0 .auto))) (.seq (.block (.seq .auto (.block (.piece (L1 k).h)))) .auto)) ⟨⟨tr,tr,tr⟩,⟨tr,(L1 k).ok⟩,tr⟩ (fun K => b0 k (kX K 0 e0))
def fn (k : Nat) (x : (LV × Int × Int × (U1) × U1)) (S : LL) (K : Kt R (U1)) : Option R :=
 rounds (b0 k (fun o74 S => K (()) S)) k (x.1,x.2.1,x.2.2.1,(()),(IntKind.wrap .i64 (x.2.1 + 1)),()) S
def en (k : Nat) : Ent PG R := mkFn T_ok Tryz.func115 ps rs (C k) (.seq .auto (.block (.piece (L0 k).h))) ⟨tr,(L0 k).ok⟩ (fn k)
end G.slices_insertionSortCmpFunc_api_Memory_at_steps_Joined_1
namespace G.slices_pdqsortCmpFunc_api_Memory_at_steps_Joined_1
abbrev ps : Mk := sR (sI (sI (sI (sh (.fn 57 []) []))))
abbrev rs : Mk := []
abbrev m0 : Mk := sR (sI (sI (sI (sh (.fn 57 []) (n5 (sB (sB (nM 136 []))))))))
abbrev mr : Mk := nM 148 []
abbrev T0 := LV × Int × Int × Int × (U1) × Bool × Bool × U1
def C (k : Nat) : List (Ent PG R) := [slices_insertionSortCmpFunc_api_Memory_at_steps_Joined_1.en k]
def b0 (k : Nat) (Jret : Kt R (U1)) (rec : Kt R T0) (x : T0) (S : LL) : Option R :=
 ifB (decide ((IntKind.wrap .i64 (x.2.2.1 - x.2.1)) ≤ 12)) (slices_insertionSortCmpFunc_api_Memory_at_steps_Joined_1.fn k ((dup x.1),x.2.1,x.2.2.1,(()),()) S fun r1 S => Jret (()) S) (ifB (x.2.2.2.1 == 0) (none) (ifB (!x.2.2.2.2.2.1) (none) (none)))
def L0 (k : Nat) : Pc PG R (.loop (su Tryz.f90 19)) := mkLoop T_ok (C k) _ m0 k (.block (.seq .auto (.seq (.seq .auto (.cond (.seq (.own [(0,2)]) (.mask mr .auto)) .auto)) (.seq (.seq .auto (.cond (.seq (.own [(0,2)]) (.mask mr .auto)) .auto)) (.seq (.seq .auto (.cond (.seq (.own [(0,2)]) .auto) .auto)) (.seq (.own [(0,2),(5,1)]) (.seq (.seq .auto (.cond (.seq .auto (.seq .auto .auto)) .auto)) (.seq (.seq .auto (.cond (.seq .auto (.cond (.mask mr .auto) .auto)) .auto)) (.seq (.seq .auto (.cond (.seq .auto (.seq .auto .auto)) .auto)) (.seq .auto (.seq .auto (.seq .auto (.seq .auto (.seq .auto (.cond (.seq .auto (.seq .auto .auto)) (.seq .auto (.seq .auto .auto))))))))))))))))) ⟨tr,⟨tr,⟨tr,tr⟩,tr⟩,⟨tr,⟨tr,tr⟩,tr⟩,⟨tr,⟨tr,tr⟩,tr⟩,tr,⟨tr,⟨tr,tr,tr⟩,tr⟩,⟨tr,⟨tr,tr,tr⟩,tr⟩,⟨tr,⟨tr,tr,tr⟩,tr⟩,tr,tr,tr,tr,tr,⟨tr,tr,tr⟩,tr,tr,tr⟩ (fun K => b0 k (kR K mr))
def fn (k : Nat) (x : (LV × Int × Int × Int × (U1) × U1)) (S : LL) (K : Kt R (U1)) : Option R :=
 rounds (b0 k (fun o2 S => K (()) S)) k (x.1,x.2.1,x.2.2.1,x.2.2.2.1,(()),true,true,()) S
def en (k : Nat) : Ent PG R := mkFn T_ok Tryz.func90 ps rs (C k) (.seq .auto (.seq .auto (.block (.piece (L0 k).h)))) ⟨tr,tr,(L0 k).ok⟩ (fn k)
end G.slices_pdqsortCmpFunc_api_Memory_at_steps_Joined_1
namespace G.slices_SortFunc_s_api_Memory_api_Memory_at_steps_Joined_1
abbrev ps : Mk := sR (sh (.fn 57 []) [])
abbrev rs : Mk := []
def C (k : Nat) : List (Ent PG R) := [slices_pdqsortCmpFunc_api_Memory_at_steps_Joined_1.en k,math_bits_Len.en k]
def fn (k : Nat) (x : (LV × (U1) × U1)) (S : LL) (K : Kt R (U1)) : Option R :=
 lenO (dup x.1) fun n1 => math_bits_Len.fn k ((IntKind.wrap .u64 (n1 : Int)),()) S fun r2 S => slices_pdqsortCmpFunc_api_Memory_at_steps_Joined_1.fn k ((dup x.1),0,(n1 : Int),r2.1,(()),()) S fun r3 S => K (()) S
def en (k : Nat) : Ent PG R := mkFn T_ok Tryz.func56 ps rs (C k) (.seq (.own [(0,2),(1,1)]) (.own [(0,2)])) ⟨tr,tr⟩ (fn k)
end G.slices_SortFunc_s_api_Memory_api_Memory_at_steps_Joined_1
namespace G.steps_Joined
abbrev ps : Mk := sR (sR [])
abbrev rs : Mk := sL 8 (sI [])
abbrev e0 : Mk := sR (sR (n6 (sh (.lf (.map)) (nM 51 []))))
abbrev e2 : Mk := nM 11 (sR (nM 48 []))
abbrev m0 : Mk := sR (sR (n6 (sh (.lf (.map)) (nM 16 (sR (sI (sI (nM 32 []))))))))
abbrev m1 : Mk := n8 (sh (.lf (.map)) (n2 (sR (nM 26 (sR (sI (sI (nM 19 []))))))))
abbrev mr : Mk := n4 (sL 8 (sI (nM 54 [])))
abbrev T1 := Nat × LV × LV × Int × Int × U1
abbrev T0 := LV × LV × Nat × LV × Int × Int × U1
def C (k : Nat) : List (Ent PG R) := [steps_CheckMemory.en k,steps_own.en k,slices_SortFunc_s_api_Memory_api_Memory_at_steps_Joined_1.en k]
def b1 (k : Nat) (J2 : Kt R (LV × U1)) (rec : Kt R T1) (x : T1) (S : LL) : Option R :=
 ifB (decide (x.2.2.2.2.1 < x.2.2.2.1)) (oslOr x.2.2.1 (fun i27 p28 z30 n29 => ifB (Nat.beq z30 8) (idxN n29 x.2.2.2.2.1 fun v26 => objAt S i27 fun ty c31 => ifB (Nat.ble ((p28 + v26 * z30) + 8) c31.length) (asStr ((c31.map dupL).getD (p28 + v26 * z30) .any) fun s32 => asStr ((c31.map dupL).getD ((p28 + v26 * z30) + 1) .any) fun s33 => asSl 3 ((c31.map dupL).getD (((p28 + v26 * z30) + 1) + 1) .any) fun l34 => asInt .i64 ((c31.map dupL).getD ((((p28 + v26 * z30) + 1) + 1) + 1) .any) fun n35 => asStr ((c31.map dupL).getD (((((p28 + v26 * z30) + 1) + 1) + 1) + 1) .any) fun s36 => asSl 3 ((c31.map dupL).getD ((((((p28 + v26 * z30) + 1) + 1) + 1) + 1) + 1) .any) fun l37 => asSl 3 ((c31.map dupL).getD (((((((p28 + v26 * z30) + 1) + 1) + 1) + 1) + 1) + 1) .any) fun l38 => asInt .i64 ((c31.map dupL).getD ((((((((p28 + v26 * z30) + 1) + 1) + 1) + 1) + 1) + 1) + 1) .any) fun n39 => mpAt S x.1 .str fun m40 => asBool ((mapGet m40 (.str s32)).getD (.bool false)) fun b41 => ifB (!b41) (appO 62 8 136 S x.2.1 [(.agg [(.str s32),(.str s33),(.sl 3 l34),(.int .i64 n35),(.str s36),(.sl 3 l37),(.sl 3 l38),(.int .i64 n39)])] fun v43 S => rec (x.1,v43,x.2.2.1,x.2.2.2.1,(IntKind.wrap .i64 (x.2.2.2.2.1 + 1)),()) S) (rec (x.1,x.2.1,x.2.2.1,x.2.2.2.1,(IntKind.wrap .i64 (x.2.2.2.2.1 + 1)),()) S)) none) none) none) (J2 (x.2.1,()) S)
def L1 (k : Nat) : Pc PG R (.loop (su Tryz.f26 1215)) := mkLoop T_ok (C k) _ m1 k (.seq .auto (.seq (.cond .auto (.mask e2 .auto)) (.seq (.block (.seq (.own [(0,1),(1,1)]) (.seq .auto (.cond (.own [(0,1),(3,1)]) .auto)))) .auto))) ⟨tr,⟨tr,tr⟩,⟨tr,tr,tr,tr⟩,tr⟩ (fun K => b1 k (kX K 2 e2))
def b0 (k : Nat) (J0 : Kt R (LV × LV × Nat × U1)) (rec : Kt R T0) (x : T0) (S : LL) : Option R :=
 ifB (decide (x.2.2.2.2.2.1 < x.2.2.2.2.1)) (oslOr x.2.2.2.1 (fun i8 p9 z11 n10 => ifB (Nat.beq z11 8) (idxN n10 x.2.2.2.2.2.1 fun v7 => objAt S i8 fun ty c12 => ifB (Nat.ble ((p9 + v7 * z11) + 8) c12.length) (asStr ((c12.map dupL).getD (p9 + v7 * z11) .any) fun s13 => asStr ((c12.map dupL).getD ((p9 + v7 * z11) + 1) .any) fun s14 => asSl 3 ((c12.map dupL).getD (((p9 + v7 * z11) + 1) + 1) .any) fun l15 => asInt .i64 ((c12.map dupL).getD ((((p9 + v7 * z11) + 1) + 1) + 1) .any) fun n16 => asStr ((c12.map dupL).getD (((((p9 + v7 * z11) + 1) + 1) + 1) + 1) .any) fun s17 => asSl 3 ((c12.map dupL).getD ((((((p9 + v7 * z11) + 1) + 1) + 1) + 1) + 1) .any) fun l18 => asSl 3 ((c12.map dupL).getD (((((((p9 + v7 * z11) + 1) + 1) + 1) + 1) + 1) + 1) .any) fun l19 => asInt .i64 ((c12.map dupL).getD ((((((((p9 + v7 * z11) + 1) + 1) + 1) + 1) + 1) + 1) + 1) .any) fun n20 => mpAt S x.2.2.1 .str fun m21 => setS (S.set x.2.2.1 (.mp .str (mapPut m21 (.str s13) (.bool true)))) fun S => rec (x.1,x.2.1,x.2.2.1,x.2.2.2.1,x.2.2.2.2.1,(IntKind.wrap .i64 (x.2.2.2.2.2.1 + 1)),()) S) none) none) none) (J0 (x.1,x.2.1,x.2.2.1,()) S)
def L0 (k : Nat) : Pc PG R (.loop (su Tryz.f26 303)) := mkLoop T_ok (C k) _ m0 k (.seq .auto (.seq (.cond .auto (.mask e0 .auto)) (.seq (.block (.seq (.own [(0,1),(1,1)]) .auto)) .auto))) ⟨tr,⟨tr,tr⟩,⟨tr,tr⟩,tr⟩ (fun K => b0 k (kX K 0 e0))
def fn0 (k : Nat) (x : (LV × LV × U1)) (S : LL) (K : Kt R (LL × Int × U1)) : Option R :=
 asSl 8 x.1 fun l1 => steps_CheckMemory.fn k (l1,()) S fun r2 S => ifB (r2.1 != 0) (K ([],r2) S) (asSl 8 x.2.1 fun l3 => steps_CheckMemory.fn k (l3,()) S fun r4 S => ifB (r4.1 != 0) (K ([],r4) S) (newObj S (.mp .str []) fun i5 S => lenO (dup x.1) fun n6 => rounds (b0 k (fun o22 S => steps_own.fn k ((dup o22.1),()) S fun r23 S => steps_own.fn k ((dup o22.2.1),()) S fun r24 S => lenO r24.1 fun n25 => rounds (b1 k (fun o44 S => lenO (dup o44.1) fun n45 => ifB (decide ((n45 : Int) > 500)) (K ([],2,()) S) (slices_SortFunc_s_api_Memory_api_Memory_at_steps_Joined_1.fn k ((dup o44.1),(()),()) S fun r46 S => frzO 8 o44.1 S fun c47 S => K (c47,0,()) S))) k (o22.2.2.1,r23.1,r24.1,(n25 : Int),0,()) S)) k (x.1,x.2.1,i5,(dup x.1),(n6 : Int),0,()) S))
def en0 (k : Nat) : Ent PG R := mkFn T_ok Tryz.func26 ps rs (C k) (.seq .auto (.seq (.seq (.own [(0,10)]) (.seq .auto (.cond (.seq .auto (.mask mr .auto)) .auto))) (.seq (.seq (.own [(0,10)]) (.seq .auto (.cond (.seq .auto (.mask mr .auto)) .auto))) (.seq .auto (.seq (.seq (.own [(0,2),(1,1)]) (.block (.piece (L0 k).h))) (.seq (.own [(0,2)]) (.seq (.seq (.own [(0,2),(2,1)]) (.block (.piece (L1 k).h))) (.seq (.seq (.own [(0,2),(1,1)]) (.cond (.seq .auto (.mask mr .auto)) .auto)) (.seq (.own [(0,2)]) (.seq (.own [(0,1)]) (.frr 4 8 (.mask mr .auto)))))))))))) ⟨tr,⟨tr,tr,⟨tr,tr⟩,tr⟩,⟨tr,tr,⟨tr,tr⟩,tr⟩,tr,⟨tr,(L0 k).ok⟩,tr,⟨tr,(L1 k).ok⟩,⟨tr,⟨tr,tr⟩,tr⟩,tr,tr,tr⟩ (fn0 k)
def fn (k : Nat) (x : (LV × LV × U1)) (S : LL) (K : Kt R (LL × Int × U1)) : Option R := popK rs 6 S (fn0 k x S fun r S => some (resE rs r,S)) K
def en (k : Nat) : Ent PG R := mkPop (rs := rs) (en0 k).ok
end G.steps_Joined
namespace G.smithyardlaw6_awake
abbrev ps : Mk := []
abbrev rs : Mk := sB []
abbrev mr : Mk := sB (nM 22 [])
def C (k : Nat) : List (Ent PG R) := [steps_Joined.en k]
def fn (k : Nat) (x : (U1)) (S : LL) (K : Kt R (Bool × U1)) : Option R :=
 steps_Joined.fn k (.nilsl,(.own 62 8 [(.agg [(.str (bs [97])),(.str (bs [48,49,50,51,52,53,54,55,56,57,97,98,99,100,101,102])),.nilsl,(.int .i64 (0 : Int)),(.str (bs [])),.nilsl,.nilsl,(.int .i64 (0 : Int))])]),()) S fun r1 S => ifB (r1.2.1 == 0) (ifB ((r1.1.length : Int) == 1) (idxL r1.1 (0 : Int) fun v2 => asStr (leaf v2 0) fun s3 => K ((strEq s3 (bs [97])),()) S) (K (false,()) S)) (K (false,()) S)
def en (k : Nat) : Ent PG R := mkFn T_ok Tryz.func8 ps rs (C k) (.seq .auto (.seq (.own [(3,1)]) (.seq .auto (.mask mr .auto)))) ⟨tr,tr,tr,tr⟩ (fn k)
end G.smithyardlaw6_awake
namespace G.steps_Edges
abbrev ps : Mk := sL 8 []
abbrev rs : Mk := sO 33 2 (sI [])
abbrev e0 : Mk := n6 (sO 33 2 (nM 45 []))
abbrev e2 : Mk := sL 8 (n5 (sO 33 2 (nM 15 (sL 1 (sI (sI (nM 27 [])))))))
abbrev m1 : Mk := sL 8 (n5 (sO 33 2 (sI (nM 14 (sL 1 (sI (sI (n4 (sL 1 (sI (sI (nM 20 []))))))))))))
abbrev mr : Mk := n2 (sO 33 2 (sI (nM 48 [])))
abbrev T1 := LL × LL × LL × Int × Int × U1
abbrev T0 := LL × LL × Int × LL × Int × Int × LL × Int × Int × U1
def C (k : Nat) : List (Ent PG R) := [steps_open.en k]
def b1 (k : Nat) (J2 : Kt R T1) (rec : Kt R T0) (x : T0) (S : LL) : Option R :=
 ifB (decide (x.2.2.2.2.2.2.2.2.1 < x.2.2.2.2.2.2.2.1)) (idxL x.2.2.2.2.2.2.1 x.2.2.2.2.2.2.2.2.1 fun v8 => asInt .i64 (leaf v8 0) fun n9 => idxL x.1 x.2.2.1 fun v10 => asStr (leaf v10 0) fun s11 => idxL x.1 n9 fun v12 => asStr (leaf v12 0) fun s13 => app 32 x.2.1 [(.agg [(.str s11),(.str s13)])] fun l14 => rec (x.1,l14,x.2.2.1,x.2.2.2.1,x.2.2.2.2.1,x.2.2.2.2.2.1,x.2.2.2.2.2.2.1,x.2.2.2.2.2.2.2.1,(IntKind.wrap .i64 (x.2.2.2.2.2.2.2.2.1 + 1)),()) S) (J2 (x.1,x.2.1,x.2.2.2.1,x.2.2.2.2.1,x.2.2.2.2.2.1,()) S)
def L1 (k : Nat) : Pc PG R (.loop (su Tryz.f9 78639)) := mkLoop T_ok (C k) _ m1 k (.seq .auto (.seq (.cond .auto (.mask e2 .auto)) (.seq (.block (.seq .auto (.drawn [(0,1)] [0,1,2,3,4,5,6,7,8,9,10,11,12,13,14]))) .auto))) ⟨tr,⟨tr,tr⟩,⟨tr,(drawn_an (by kernel_rfl))⟩,tr⟩ (fun K => b1 k (kX K 2 e2))
def b0 (k : Nat) (J0 : Kt R (LL × U1)) (rec : Kt R T1) (x : T1) (S : LL) : Option R :=
 ifB (decide (x.2.2.2.2.1 < x.2.2.2.1)) (idxL x.2.2.1 x.2.2.2.2.1 fun v6 => asSl 1 (leaf v6 0) fun l7 => rounds (b1 k (fun o15 S => rec (o15.1,o15.2.1,o15.2.2.1,o15.2.2.2.1,(IntKind.wrap .i64 (o15.2.2.2.2.1 + 1)),()) S)) k (x.1,x.2.1,x.2.2.2.2.1,x.2.2.1,x.2.2.2.1,x.2.2.2.2.1,l7,(l7.length : Int),0,()) S) (J0 (x.2.1,()) S)
def L0 (k : Nat) : Pc PG R (.loop (su Tryz.f9 303)) := mkLoop T_ok (C k) _ e2 k (.seq .auto (.seq (.cond .auto (.mask e0 .auto)) (.seq (.block (.seq .auto (.seq .auto (.block (.piece (L1 k).h))))) .auto))) ⟨tr,⟨tr,tr⟩,⟨tr,tr,(L1 k).ok⟩,tr⟩ (fun K => b0 k (kX K 0 e0))
def fn0 (k : Nat) (x : (LL × U1)) (S : LL) (K : Kt R (LL × Int × U1)) : Option R :=
 steps_open.fn k x S fun r1 S => ifB (r1.2.1 != 0) (K ([],r1.2) S) (asPtr (dup r1.1) fun i2 p3 => objAt S i2 fun ty c4 => ldSl 1 c4 (p3 + 2) fun l5 => rounds (b0 k (fun o16 S => K (o16.1,0,()) S)) k (x.1,[],l5,(l5.length : Int),0,()) S)
def en0 (k : Nat) : Ent PG R := mkFn T_ok Tryz.func9 ps rs (C k) (.seq .auto (.seq (.own [(2,1)]) (.seq (.seq .auto (.cond (.seq .auto (.mask mr .auto)) .auto)) (.seq .auto (.seq (.seq (.own [(0,2),(1,1),(3,1)]) (.block (.piece (L0 k).h))) (.seq (.own [(0,1)]) (.mask mr .auto))))))) ⟨tr,tr,⟨tr,⟨tr,tr⟩,tr⟩,tr,⟨tr,(L0 k).ok⟩,tr,tr⟩ (fn0 k)
def fn (k : Nat) (x : (LL × U1)) (S : LL) (K : Kt R (LL × Int × U1)) : Option R := popK rs 6 S (fn0 k x S fun r S => some (resE rs r,S)) K
def en (k : Nat) : Ent PG R := mkPop (rs := rs) (en0 k).ok
end G.steps_Edges
namespace G.smithyardlaw6_StepsOrdersStand
abbrev ps : Mk := sL 8 (sL 1 [])
abbrev rs : Mk := sB []
abbrev c0 : Mk := n1 (sL 1 (n3 (sO 9 1 (n1 (sO 33 2 (n1 (sI (sB (sI (nM 109 []))))))))))
abbrev e0 : Mk := n1 (sL 1 (n3 (sO 9 1 (n1 (sO 33 2 (nM 113 []))))))
abbrev e2 : Mk := nM 121 []
abbrev e4 : Mk := n1 (sL 1 (n3 (sO 9 1 (n1 (sO 33 2 (n1 (sI (sB (nM 110 [])))))))))
abbrev m0 : Mk := n1 (sL 1 (n3 (sO 9 1 (n1 (sO 33 2 (sI (nM 112 [])))))))
abbrev m1 : Mk := n1 (sL 1 (n3 (sO 9 1 (n1 (sO 33 2 (n1 (sI (nM 111 []))))))))
abbrev mr : Mk := n4 (sB (nM 116 []))
abbrev T2 := Bool × U1
abbrev T1 := LL × LL × LL × Int × U1
abbrev T0 := LL × LL × LL × Int × Bool × Int × U1
def C (k : Nat) : List (Ent PG R) := [steps_Order.en k,smithyardlaw6_awake.en k,steps_Edges.en k,slices_Contains_s_string_string.en k]
def q0 (k : Nat) (Jnrm : Kt R T0)  (x : T0) (S : LL) : Option R :=
 ifB x.2.2.2.2.1 (Jnrm (x.1,x.2.1,x.2.2.1,x.2.2.2.1,true,x.2.2.2.2.2) S) (idxL x.2.2.1 x.2.2.2.2.2.1 fun v23 => asStr (leaf v23 1) fun s24 => idxL x.2.1 x.2.2.2.1 fun v25 => asStr (leaf v25 0) fun s26 => ifB (strEq s24 s26) (slL x.2.1 x.2.2.2.1 (x.2.1.length : Int) fun l27 => idxL x.2.2.1 x.2.2.2.2.2.1 fun v28 => asStr (leaf v28 0) fun s29 => slices_Contains_s_string_string.fn k (l27,s29,()) S fun r30 S => Jnrm (x.1,x.2.1,x.2.2.1,x.2.2.2.1,r30.1,x.2.2.2.2.2) S) (Jnrm (x.1,x.2.1,x.2.2.1,x.2.2.2.1,false,x.2.2.2.2.2) S))
def Q0 (k : Nat) : Pc PG R (su Tryz.f3 13198527) := mkEnd T_ok (C k) _ c0 c0 (.drawn [] [0,1,2,3,4,5,6,7,8,9,10,11,12,13,14,15,16,17,18,19,20,21,22,23,24]) (drawn_an (by kernel_rfl)) (fun x S K => q0 k (kN K c0) x S)
def q1 (k : Nat) (Jnrm : Kt R T0)  (x : T0) (S : LL) : Option R :=
 Jnrm (x.1,x.2.1,x.2.2.1,x.2.2.2.1,x.2.2.2.2.1,(IntKind.wrap .i64 (x.2.2.2.2.2.1 + 1)),()) S
def Q1 (k : Nat) : Pc PG R (su Tryz.f3 3761343) := mkEnd T_ok (C k) _ c0 c0 (.auto) tr (fun x S K => q1 k (kN K c0) x S)
def b2 (k : Nat) (J4 : Kt R (LL × LL × LL × Int × Bool × U1)) (Jret : Kt R T2) (rec : Kt R T0) (x : T0) (S : LL) : Option R :=
 ifB (decide (x.2.2.2.2.2.1 < (x.2.2.1.length : Int))) (idxL x.2.2.1 x.2.2.2.2.2.1 fun v15 => asStr (leaf v15 0) fun s16 => idxL x.2.1 x.2.2.2.1 fun v17 => asStr (leaf v17 0) fun s18 => ifB (strEq s16 s18) (slL x.2.1 (0 : Int) x.2.2.2.1 fun l19 => idxL x.2.2.1 x.2.2.2.2.2.1 fun v20 => asStr (leaf v20 1) fun s21 => slices_Contains_s_string_string.fn k (l19,s21,()) S fun r22 S => ifB (!r22.1) (Jret (false,()) S) (q0 k (fun o31 S => q1 k rec o31 S) x S)) (q0 k (fun o33 S => q1 k rec o33 S) x S)) (J4 (x.1,x.2.1,x.2.2.1,x.2.2.2.1,x.2.2.2.2.1,()) S)
def L2 (k : Nat) : Pc PG R (.loop (su Tryz.f3 615615)) := mkLoop T_ok (C k) _ c0 k (.seq (.seq .auto (.cond .auto (.mask e4 .auto))) (.seq (.block (.seq (.seq (.drawn [] [0,1,2,3,4,5,6,7,8,9,10,11,12,13,14,15,16,17,18,19,20,21]) (.cond (.seq .auto (.mask mr .auto)) .auto)) (.piece (Q0 k).h))) (.piece (Q1 k).h))) ⟨⟨tr,tr,tr⟩,⟨⟨(drawn_an (by kernel_rfl)),⟨tr,tr⟩,tr⟩,(Q0 k).ok⟩,(Q1 k).ok⟩ (fun K => b2 k (kX K 4 e4) (kR K mr))
def b1 (k : Nat) (J2 : Kt R (U1)) (Jret : Kt R T2) (rec : Kt R T1) (x : T1) (S : LL) : Option R :=
 ifB (decide (x.2.2.2.1 < (x.2.1.length : Int))) (slL x.2.1 (0 : Int) x.2.2.2.1 fun l8 => idxL x.2.1 x.2.2.2.1 fun v9 => asStr (leaf v9 0) fun s10 => slices_Contains_s_string_string.fn k (l8,s10,()) S fun r11 S => ifB r11.1 (Jret (false,()) S) (idxL x.2.1 x.2.2.2.1 fun v12 => asStr (leaf v12 0) fun s13 => slices_Contains_s_string_string.fn k (x.1,s13,()) S fun r14 S => rounds (b2 k (fun o35 S => ifB (!o35.2.2.2.2.1) (Jret (false,()) S) (rec (o35.1,o35.2.1,o35.2.2.1,(IntKind.wrap .i64 (o35.2.2.2.1 + 1)),()) S)) Jret) k (x.1,x.2.1,x.2.2.1,x.2.2.2.1,r14.1,0,()) S)) (J2 (()) S)
def L1 (k : Nat) : Pc PG R (.loop (su Tryz.f3 1215)) := mkLoop T_ok (C k) _ m1 k (.seq (.seq .auto (.cond .auto (.mask e2 .auto))) (.seq (.block (.seq (.seq (.drawn [] [0,1,2,3,4,5,6,7]) (.cond (.seq .auto (.mask mr .auto)) .auto)) (.seq .auto (.seq (.seq .auto (.block (.piece (L2 k).h))) (.seq .auto (.cond (.seq .auto (.mask mr .auto)) .auto)))))) .auto)) ⟨⟨tr,tr,tr⟩,⟨⟨(drawn_an (by kernel_rfl)),⟨tr,tr⟩,tr⟩,tr,⟨tr,(L2 k).ok⟩,tr,⟨tr,tr⟩,tr⟩,tr⟩ (fun K => b1 k (kX K 2 e2) (kR K mr))
def b0 (k : Nat) (J0 : Kt R (LL × LL × LL × U1)) (Jret : Kt R T2) (rec : Kt R T1) (x : T1) (S : LL) : Option R :=
 ifB (decide (x.2.2.2.1 < (x.1.length : Int))) (idxL x.1 x.2.2.2.1 fun v4 => asStr (leaf v4 0) fun s5 => slices_Contains_s_string_string.fn k (x.2.1,s5,()) S fun r6 S => ifB (!r6.1) (Jret (false,()) S) (rec (x.1,x.2.1,x.2.2.1,(IntKind.wrap .i64 (x.2.2.2.1 + 1)),()) S)) (J0 (x.1,x.2.1,x.2.2.1,()) S)
def L0 (k : Nat) : Pc PG R (.loop (su Tryz.f3 607)) := mkLoop T_ok (C k) _ m0 k (.seq (.seq .auto (.cond .auto (.mask e0 .auto))) (.seq (.block (.seq .auto (.cond (.seq .auto (.mask mr .auto)) .auto))) .auto)) ⟨⟨tr,tr,tr⟩,⟨tr,⟨tr,tr⟩,tr⟩,tr⟩ (fun K => b0 k (kX K 0 e0) (kR K mr))
def fn (k : Nat) (x : (LL × LL × U1)) (S : LL) (K : Kt R T2) : Option R :=
 steps_Order.fn k x S fun r1 S => ifB (r1.2.1 != 0) (ifB ((r1.1.length : Int) == 0) (smithyardlaw6_awake.fn k (()) S K) (K (false,()) S)) (steps_Edges.fn k (x.1,()) S fun r3 S => ifB (r3.2.1 != 0) (K (false,()) S) (rounds (b0 k (fun o7 S => rounds (b1 k (fun o37 S => smithyardlaw6_awake.fn k (()) S K) K) k (o7.1,o7.2.1,o7.2.2.1,0,()) S) K) k (x.2.1,r1.1,r3.1,0,()) S))
def en (k : Nat) : Ent PG R := mkFn T_ok Tryz.func3 ps rs (C k) (.seq .auto (.seq (.own [(3,1)]) (.seq (.seq .auto (.cond (.seq .auto (.mask mr .auto)) .auto)) (.seq (.own [(2,1)]) (.seq (.seq .auto (.cond (.seq .auto (.mask mr .auto)) .auto)) (.seq (.seq .auto (.block (.piece (L0 k).h))) (.seq (.seq .auto (.block (.piece (L1 k).h))) (.seq .auto (.mask mr .auto))))))))) ⟨tr,tr,⟨tr,⟨tr,tr⟩,tr⟩,tr,⟨tr,⟨tr,tr⟩,tr⟩,⟨tr,(L0 k).ok⟩,⟨tr,(L1 k).ok⟩,tr,tr⟩ (fn k)
end G.smithyardlaw6_StepsOrdersStand
end Go.Lm
end
namespace Go.Lm
section
variable {R : Type}
@[simp] theorem ifB_true (a b : Option R) : ifB true a b = a := rfl
@[simp] theorem ifB_false (a b : Option R) : ifB false a b = b := rfl
theorem ifB_pos {p : Prop} [Decidable p] (h : p) (a b : Option R) : ifB (decide p) a b = a := by simp [h]
theorem ifB_neg {p : Prop} [Decidable p] (h : ¬ p) (a b : Option R) : ifB (decide p) a b = b := by simp [h]
theorem rounds_succ {α : Type} (b : (α → List LV → Option R) → α → List LV → Option R) (n : Nat) (x : α) (S : List LV) : rounds b (n + 1) x S = b (rounds b n) x S := rfl
def scan {β : Type} (step : Nat → Option β) (fin : β) : Nat → Nat → β
 | 0,_ => fin
 | d + 1,i => match step i with
  | some r => r
  | none => scan step fin d (i + 1)
theorem rounds_scan {α : Type} {b : (α → List LV → Option R) → α → List LV → Option R} (x : Nat → α) (S : Nat → List LV) (n : Nat) (step : Nat → Option (Option R)) (fin : Option R)
  (hb : ∀ rec i,i < n → b rec (x i) (S i) = match step i with | some r => r | none => rec (x (i + 1)) (S (i + 1))) (he : ∀ rec,b rec (x n) (S n) = fin) :
  ∀ (d i fuel : Nat),i + d = n → d < fuel → rounds b fuel (x i) (S i) = scan step fin d i
 | 0,i,fuel,hi,hf => by
  obtain ⟨m,rfl⟩ : ∃ m,fuel = m + 1 := ⟨fuel - 1,by omega⟩
  have : i = n := by omega
  subst this
  rw [rounds_succ,he]; rfl
 | d + 1,i,fuel,hi,hf => by
  obtain ⟨m,rfl⟩ : ∃ m,fuel = m + 1 := ⟨fuel - 1,by omega⟩
  rw [rounds_succ,hb _ i (by omega)]
  cases h : step i with
  | some r => simp only [scan,h]
  | none => simp only [scan,h]; exact rounds_scan x S n step fin hb he d (i + 1) m (by omega) (by omega)
theorem rounds_scan0 {α : Type} {b : (α → List LV → Option R) → α → List LV → Option R} (x : Nat → α) (S : List LV) (n k : Nat) (step : Nat → Option (Option R)) (fin : Option R)
  (hb : ∀ rec i,i < n → b rec (x i) S = match step i with | some r => r | none => rec (x (i + 1)) S) (he : ∀ rec,b rec (x n) S = fin) (hk : n < k) : rounds b k (x 0) S = scan step fin n 0 :=
 rounds_scan x (fun _ => S) n step fin hb he n 0 k (by omega) hk
theorem scan_congr {β : Type} {step step' : Nat → Option β} {fin fin' : β} : ∀ (d i : Nat),(∀ j,i ≤ j → j < i + d → step j = step' j) → fin = fin' → scan step fin d i = scan step' fin' d i
 | 0,_,_,h => h
 | d + 1,i,h,hf => by
  simp only [scan]
  rw [h i (Nat.le_refl _) (by omega),scan_congr d (i + 1) (fun j h1 h2 => h j (by omega) (by omega)) hf]
theorem scan_map {β γ : Type} (f : β → γ) {step : Nat → Option β} {fin : β} : ∀ (d i : Nat),scan (fun j => (step j).map f) (f fin) d i = f (scan step fin d i)
 | 0,_ => rfl
 | d + 1,i => by
  simp only [scan]
  cases h : step i with
  | some r => rfl
  | none => simp only [Option.map_none]; exact scan_map f d (i + 1)
theorem scan_none {β : Type} {step : Nat → Option β} {fin : β} : ∀ (d i : Nat),(∀ j,i ≤ j → j < i + d → step j = none) → scan step fin d i = fin
 | 0,_,_ => rfl
 | d + 1,i,h => by
  simp only [scan]
  rw [h i (Nat.le_refl _) (by omega)]
  exact scan_none d (i + 1) (fun j h1 h2 => h j (by omega) (by omega))
theorem wrap_id {n : Int} (h0 : -9223372036854775808 ≤ n) (h : n ≤ 9223372036854775807) : IntKind.wrap .i64 n = n := by
 rw [IntKind.wrap_i64]; omega
theorem wrap_succ {i : Nat} (h : i < 9223372036854775807) : IntKind.wrap .i64 ((i : Int) + 1) = ((i + 1 : Nat) : Int) := by
 rw [wrap_id (by omega) (by omega)]; omega
theorem wrap_pred {i : Nat} (h0 : 0 < i) (h : i < 9223372036854775807) : IntKind.wrap .i64 ((i : Int) - 1) = ((i - 1 : Nat) : Int) := by
 rw [wrap_id (by omega) (by omega)]; omega
theorem idxL_nat {xs : List LV} {i : Nat} (h : i < xs.length) (K : LV → Option R) : idxL xs (i : Int) K = K (xs.getD i .any) := by
 unfold idxL
 rw [ifB_pos ⟨by omega,by omega⟩,Int.toNat_natCast]
theorem idxStr_nat {s : ByteArray} {i : Nat} (h : i < s.size) (K : Int → Option R) : idxStr s (i : Int) K = K (bt s i) := by
 unfold idxStr
 rw [ifB_pos ⟨by omega,by omega⟩]
theorem lt_nat (i n : Nat) : decide ((i : Int) < (n : Int)) = decide (i < n) := by simp
theorem baList (s : ByteArray) : s.toList = s.data.toList := by
 rw [ByteArray.toList_eq]
theorem strEq_iff (a b : ByteArray) : strEq a b = true ↔ a = b := by
 unfold strEq
 rw [beq_iff_eq,baList,baList]
 constructor
 ·intro h
  have : a.data = b.data := Array.ext' h
  cases a; cases b; simp_all
 ·intro h; rw [h]
theorem strEq_dec (a b : ByteArray) : strEq a b = decide (a = b) := by
 rw [Bool.eq_iff_iff,strEq_iff]; simp
theorem asStr_str (s : ByteArray) (K : ByteArray → Option R) : asStr (.str s) K = K s := rfl
theorem asBool_bool (b : Bool) (K : Bool → Option R) : asBool (.bool b) K = K b := rfl
theorem asInt_int (k : IntKind) (n : Int) (K : Int → Option R) : asInt k (.int k n) K = K n := by simp [asInt]
theorem asSl_sl (z : Nat) (xs : List LV) (K : List LV → Option R) : asSl z (.sl z xs) K = K xs := by simp [asSl]
theorem asSl_own (e z : Nat) (xs : List LV) (K : List LV → Option R) : asSl z (.own e z xs) K = K xs := by simp [asSl]
theorem asSl_nil (z : Nat) (K : List LV → Option R) : asSl z .nilsl K = K [] := rfl
theorem app_le {b : Nat} {ys xs : List LV} {K : List LV → Option R} (h : (ys.length + xs.length) * b ≤ 140737488355328) (h2 : ys.length + xs.length ≤ 9223372036854775807) : app b ys xs K = K (ys ++ xs) := by
 unfold app
 rw [ifB_pos ⟨h,h2⟩]
theorem slStr_nat {s : ByteArray} {i : Nat} (h : i ≤ s.size) (K : ByteArray → Option R) : slStr s 0 (i : Int) K = K (s.extract 0 i) := by
 unfold slStr
 rw [ifB_pos ⟨by omega,by omega,by omega⟩]; rfl
theorem bt_nat {s : ByteArray} {i : Nat} (h : i < s.size) : bt s i = ((s[i]'h).toNat : Int) := by
 unfold bt
 rw [Int.toNat_natCast,dif_pos h]
theorem bt_lt (s : ByteArray) (i : Int) : 0 ≤ bt s i ∧ bt s i < 256 := by
 unfold bt
 split
 ·rename_i h
  have := (s[i.toNat]'h).toNat_lt
  omega
 ·omega
end
end Go.Lm
set_option maxRecDepth 100000
namespace Go.Lm
section
variable {R : Type}
def Many (k : Nat) : Prop := 281474976710656 ≤ k
def partB (c : Int) : Bool := (decide (c ≥ 97) && decide (c ≤ 122)) || ((decide (c ≥ 65) && decide (c ≤ 90)) || ((decide (c ≥ 48) && decide (c ≤ 57)) || ((c == 46) || ((c == 95) || ((c == 45) || (c == 43))))))
theorem indexByte_part (c : Int) (h0 : 0 ≤ c) (h1 : c < 256) : decide (Lib.indexByte [46,95,45,43] c.toNat.toUInt8 ≥ 0) = ((c == 46) || ((c == 95) || ((c == 45) || (c == 43)))) := by
 have key : ∀ n : Fin 256,decide (Lib.indexByte [46,95,45,43] (n.val.toUInt8) ≥ 0) = (((n.val : Int) == 46) || (((n.val : Int) == 95) || (((n.val : Int) == 45) || ((n.val : Int) == 43)))) := by decide +kernel
 have := key ⟨c.toNat,by omega⟩
 rw [this]
 have e : ((c.toNat : Nat) : Int) = c := by omega
 simp only [e]
theorem prog_inPart (k : Nat) (c : Int) (h0 : 0 ≤ c) (h1 : c < 256) (S : List LV) (K : Bool × Unit → List LV → Option R) : G.blob_inPart.fn k (c,()) S K = K (partB c,()) S := by
 have hi : ∀ K' : Int × Unit → List LV → Option R,G.strings_IndexByte.fn k ((bs [46,95,45,43]),c,()) S K' = K' (Lib.indexByte [46,95,45,43] c.toNat.toUInt8,()) S := fun K' => rfl
 unfold G.blob_inPart.fn partB
 dsimp only
 simp only [hi]
 rw [indexByte_part c h0 h1]
 generalize ((c == 46) || ((c == 95) || ((c == 45) || (c == 43)))) = b7
 generalize decide (c ≥ 97) = b1
 generalize decide (c ≤ 122) = b2
 generalize decide (c ≥ 65) = b3
 generalize decide (c ≤ 90) = b4
 generalize decide (c ≥ 48) = b5
 generalize decide (c ≤ 57) = b6
 cases b1 <;> cases b3 <;> cases b5 <;> (try cases b2) <;> (try cases b4) <;> (try cases b6) <;> cases b7 <;> rfl
def isPartS (s : ByteArray) : Bool := scan (fun i => match partB (bt s i) with | true => none | false => some false) (!(strEq s (bs [])) && (!(strEq s (bs [46])) && !(strEq s (bs [46,46])))) s.size 0
theorem fin_part (s : ByteArray) (S : List LV) (K : Bool × Unit → List LV → Option R) : ifB (!(strEq s (bs []))) (ifB (!(strEq s (bs [46]))) (K ((!(strEq s (bs [46,46]))),()) S) (K (false,()) S)) (K (false,()) S) = K (!(strEq s (bs [])) && (!(strEq s (bs [46])) && !(strEq s (bs [46,46]))),()) S := by
 generalize strEq s (bs []) = a
 generalize strEq s (bs [46]) = b
 cases a <;> cases b <;> rfl
theorem prog_isPart {k : Nat} (hk : Many k) (s : ByteArray) (hs : s.size ≤ 140737488355328) (S : List LV) (K : Bool × Unit → List LV → Option R) : G.blob_isPart.fn k (s,()) S K = K (isPartS s,()) S := by
 unfold Many at hk
 unfold G.blob_isPart.fn isPartS
 refine Eq.trans (rounds_scan0 (fun i => (s,(s.size : Int),(i : Int),())) S s.size k (fun i => match partB (bt s i) with | true => none | false => some (K (false,()) S)) (K (!(strEq s (bs [])) && (!(strEq s (bs [46])) && !(strEq s (bs [46,46]))),()) S) (fun rec i hi => ?_) (fun rec => ?_) (by omega)) ?_
 ·unfold G.blob_isPart.b0
  dsimp only
  have hb := bt_lt s i
  rw [lt_nat,ifB_pos hi,idxStr_nat hi,prog_inPart k _ hb.1 hb.2,wrap_succ (by omega)]
  cases partB (bt s i) <;> rfl
 ·unfold G.blob_isPart.b0
  dsimp only
  rw [lt_nat,ifB_neg (Nat.lt_irrefl _),fin_part]
 ·rw [← scan_map (fun b => K (b,()) S)]
  refine scan_congr _ _ (fun j _ _ => ?_) rfl
  cases partB (bt s j) <;> rfl
def partsOf (s : ByteArray) : List ByteArray := Lib.splitB (bs [47]) 0 (Lib.countB s (bs [47])) s
theorem split_at (k : Nat) (s : ByteArray) (hs : s.size < 4294967281) (S : List LV) (K : List LV × Unit → List LV → Option R) : G.strings_Split.fn k (s,(bs [47]),()) S K = K ((partsOf s).map .str,()) S := by
 unfold G.strings_Split.fn H.genSplit.fn handF splitF
 dsimp only
 rw [decide_eq_true ⟨rfl,rfl,rfl,hs⟩]
 rfl
theorem splitB_sizes (sep : ByteArray) : ∀ (n : Nat) (s : ByteArray) (p : ByteArray),p ∈ Lib.splitB sep 0 n s → p.size ≤ s.size
 | 0,s,p,h => by
  rw [Lib.splitB_zero] at h
  simp at h; subst h; exact Nat.le_refl _
 | n + 1,s,p,h => by
  unfold Lib.splitB at h
  split at h
  ·simp at h; subst h; exact Nat.le_refl _
  ·rcases List.mem_cons.1 h with rfl | h
   ·simp only [ByteArray.size_extract]; omega
   ·refine Nat.le_trans (splitB_sizes sep n _ p h) ?_
    simp only [ByteArray.size_extract]; omega
theorem splitB_len (sep : ByteArray) : ∀ (n : Nat) (s : ByteArray),(Lib.splitB sep 0 n s).length ≤ n + 1
 | 0,s => by rw [Lib.splitB_zero]; simp
 | n + 1,s => by
  unfold Lib.splitB
  split
  ·simp
  ·have := splitB_len sep n (s.extract ((Lib.indexB s sep).toNat + sep.size) s.size)
   simp only [List.length_cons]; omega
def isPathS (s : ByteArray) : Bool := decide (1 ≤ s.size) && (decide (s.size ≤ 200) && (partsOf s).all isPartS)
theorem all_scan (l : List ByteArray) : l.all isPartS = scan (fun i => match isPartS (l.getD i (bs [])) with | true => none | false => some false) true l.length 0 := by
 have : ∀ (d i : Nat),i + d = l.length → (l.drop i).all isPartS = scan (fun i => match isPartS (l.getD i (bs [])) with | true => none | false => some false) true d i := by
  intro d
  induction d with
  | zero => intro i hi; rw [List.drop_eq_nil_of_le (by omega)]; rfl
  | succ d ih =>
   intro i hi
   have hlt : i < l.length := by omega
   rw [List.drop_eq_getElem_cons hlt,List.all_cons]
   simp only [scan]
   rw [List.getD_eq_getElem?_getD,List.getElem?_eq_getElem hlt,Option.getD_some]
   cases isPartS l[i] with
   | true => simp only [Bool.true_and]; exact ih (i + 1) (by omega)
   | false => rfl
 simpa using this l.length 0 (by omega)
theorem map_str_get (l : List ByteArray) (i : Nat) (h : i < l.length) : (l.map LV.str).getD i .any = .str (l.getD i (bs [])) := by
 simp [List.getD_eq_getElem?_getD,h]
theorem partsOf_len (s : ByteArray) (hs : s.size ≤ 200) : (partsOf s).length ≤ 201 + 1 := by
 have h1 := splitB_len (bs [47]) (Lib.countB s (bs [47])) s
 have h2 := Lib.countB_le (bs [47]) (Nat.le_refl 1) s.size s (Nat.le_refl _)
 unfold partsOf
 omega
theorem partsOf_size (s : ByteArray) (i : Nat) (h : i < (partsOf s).length) : ((partsOf s).getD i (bs [])).size ≤ s.size := by
 refine splitB_sizes (bs [47]) (Lib.countB s (bs [47])) s _ ?_
 rw [List.getD_eq_getElem?_getD,List.getElem?_eq_getElem h]
 exact List.getElem_mem h
theorem prog_IsPath {k : Nat} (hk : Many k) (s : ByteArray) (S : List LV) (K : Bool × Unit → List LV → Option R) : G.blob_IsPath.fn k (s,()) S K = K (isPathS s,()) S := by
 have hk' := hk
 unfold Many at hk'
 unfold G.blob_IsPath.fn isPathS
 dsimp only
 by_cases h1 : 1 ≤ s.size
 ·rw [ifB_neg (show ¬ (s.size : Int) < 1 by omega),decide_eq_true h1]
  by_cases h2 : s.size ≤ 200
  ·rw [ifB_neg (show ¬ (s.size : Int) > 200 by omega),decide_eq_true h2]
   simp only [Bool.true_and]
   have hl := partsOf_len s h2
   rw [split_at k s (by omega)]
   dsimp only
   rw [List.length_map]
   refine Eq.trans (rounds_scan0 (fun i => ((partsOf s).map LV.str,((partsOf s).length : Int),(i : Int),())) S (partsOf s).length k (fun i => match isPartS ((partsOf s).getD i (bs [])) with | true => none | false => some (K (false,()) S)) (K (true,()) S) (fun rec i hi => ?_) (fun rec => ?_) (by omega)) ?_
   ·unfold G.blob_IsPath.b0
    dsimp only
    have hsz := partsOf_size s i hi
    rw [lt_nat,ifB_pos hi,idxL_nat (by simpa using hi),map_str_get _ _ hi]
    show asStr (.str _) _ = _
    rw [asStr_str,prog_isPart hk _ (by omega),wrap_succ (by omega)]
    cases isPartS ((partsOf s).getD i (bs [])) <;> rfl
   ·unfold G.blob_IsPath.b0
    dsimp only
    rw [lt_nat,ifB_neg (Nat.lt_irrefl _)]
   ·rw [all_scan,← scan_map (fun b => K (b,()) S)]
    refine scan_congr _ _ (fun j _ _ => ?_) rfl
    cases isPartS ((partsOf s).getD j (bs [])) <;> rfl
  ·rw [ifB_pos (show (s.size : Int) > 200 by omega),decide_eq_false h2]
   simp
 ·rw [ifB_pos (show (s.size : Int) < 1 by omega),decide_eq_false h1]
  simp
end
end Go.Lm
set_option maxRecDepth 100000
namespace Go.Lm
section
variable {R : Type}
def hexB (c : Int) : Bool := (decide (c ≥ 48) && decide (c ≤ 57)) || (decide (c ≥ 97) && decide (c ≤ 102))
theorem ba_len (s : ByteArray) : s.data.toList.length = s.size := by rw [Array.length_toList]; rfl
def isDigestS (s : ByteArray) : Bool := s.data.toList.all (fun b => hexB (b.toNat : Int)) && ((s.size : Int) == 16)
theorem dropWhile_nil {α : Type} (p : α → Bool) : ∀ (l : List α),l.dropWhile p = [] ↔ ∀ x,x ∈ l → p x = true
 | [] => by simp
 | x :: l => by
  rw [List.dropWhile_cons]
  cases h : p x with
  | true => simp [h,dropWhile_nil p l]
  | false => simp [h]
theorem dropWhile_head {α : Type} (p : α → Bool) : ∀ (l : List α) (x : α) (xs : List α),l.dropWhile p = x :: xs → p x = false
 | [],x,xs,h => by simp at h
 | y :: l,x,xs,h => by
  rw [List.dropWhile_cons] at h
  cases hy : p y with
  | true => rw [hy] at h; exact dropWhile_head p l x xs (by simpa using h)
  | false => rw [hy] at h; simp at h; rw [← h.1]; exact hy
theorem trim_nil (l cs : List UInt8) : Lib.trimS l cs = [] ↔ l.all (fun b => cs.contains b) = true := by
 unfold Lib.trimS Lib.trimLeftS
 rw [dropWhile_nil]
 constructor
 ·intro h
  have hr : Lib.trimRightS l cs = [] := by
   unfold Lib.trimRightS at h ⊢
   cases hd : l.reverse.dropWhile (cs.contains ·) with
   | nil => rfl
   | cons x xs =>
    exfalso
    have h1 := h x (by rw [hd]; simp)
    have h2 := dropWhile_head _ _ _ _ hd
    rw [h1] at h2; cases h2
  unfold Lib.trimRightS at hr
  have hr' : l.reverse.dropWhile (cs.contains ·) = [] := by simpa using hr
  rw [dropWhile_nil] at hr'
  rw [List.all_eq_true]
  intro x hx
  exact hr' x (by simpa using hx)
 ·intro h x hx
  rw [List.all_eq_true] at h
  unfold Lib.trimRightS at hx
  exact h x (by
   have := List.mem_reverse.1 hx
   have := (List.dropWhile_sublist _).subset this
   simpa using this)
theorem prog_IsDigest {k : Nat} (s : ByteArray) (S : List LV) (K : Bool × Unit → List LV → Option R) : G.blob_IsDigest.fn k (s,()) S K = K (isDigestS s,()) S := by
 unfold G.blob_IsDigest.fn isDigestS
 dsimp only
 cases hz : ((s.size : Int) == 16) with
 | false => simp
 | true =>
  have h16 : s.size = 16 := by have := beq_iff_eq.1 hz; omega
  rw [ifB_true,Bool.and_true]
  unfold H.Trim.fn handF trimF
  dsimp only
  have : (decide (s.size ≤ 9223372036854775807) && decide ((bs [48,49,50,51,52,53,54,55,56,57,97,98,99,100,101,102]).size < 4294967281) && (bs [48,49,50,51,52,53,54,55,56,57,97,98,99,100,101,102]).data.toList.all (fun b => decide (b.toNat < 128))) = true := by
   rw [decide_eq_true (by omega)]; decide +kernel
  rw [this]
  dsimp only
  congr 2
  rw [Bool.eq_iff_iff,strEq_iff]
  constructor
  ·intro h
   have h2 : Lib.trimS s.data.toList (bs [48,49,50,51,52,53,54,55,56,57,97,98,99,100,101,102]).data.toList = [] := by
    have := congrArg (fun b : ByteArray => b.data.toList) h
    simpa [bs] using this
   rw [trim_nil] at h2
   rw [List.all_eq_true] at h2 ⊢
   intro b hb
   have h3 := h2 b hb
   have key : ∀ n : Fin 256,(bs [48,49,50,51,52,53,54,55,56,57,97,98,99,100,101,102]).data.toList.contains (n.val.toUInt8) = true → hexB (n.val : Int) = true := by decide +kernel
   have := key ⟨b.toNat,b.toNat_lt⟩
   simp only [Nat.toUInt8,UInt8.ofNat_toNat] at this
   exact this h3
  ·intro h
   have h2 : Lib.trimS s.data.toList (bs [48,49,50,51,52,53,54,55,56,57,97,98,99,100,101,102]).data.toList = [] := by
    rw [trim_nil,List.all_eq_true]
    rw [List.all_eq_true] at h
    intro b hb
    have h3 := h b hb
    have key : ∀ n : Fin 256,hexB (n.val : Int) = true → (bs [48,49,50,51,52,53,54,55,56,57,97,98,99,100,101,102]).data.toList.contains (n.val.toUInt8) = true := by decide +kernel
    have := key ⟨b.toNat,b.toNat_lt⟩
    simp only [Nat.toUInt8,UInt8.ofNat_toNat] at this
    exact this h3
   rw [h2]; rfl
structure Look where
 p : ByteArray
 d : ByteArray
 r : Bool
def Look.lv (x : Look) : LV := .agg [.str x.p,.str x.d,.bool x.r]
def lookS (l : List Look) (i : Nat) : Option Int :=
 let x := l.getD i ⟨bs [],bs [],false⟩
 match !(isPathS x.p) with
 | true => some 3
 | false => match (!(strEq x.d (bs [])) && !(isDigestS x.d)) || (strEq x.d (bs []) && x.r) with
  | true => some 3
  | false => match decide (0 < i) && (strLt x.p (l.getD (i - 1) ⟨bs [],bs [],false⟩).p || strEq x.p (l.getD (i - 1) ⟨bs [],bs [],false⟩).p) with
   | true => some 8
   | false => none
def checkLooksS (l : List Look) : Int := match decide (l.length > 4000) with
 | true => 2
 | false => scan (lookS l) 0 l.length 0
theorem look_get (l : List Look) (i : Nat) (h : i < l.length) : (l.map Look.lv).getD i .any = (l.getD i ⟨bs [],bs [],false⟩).lv := by
 simp [List.getD_eq_getElem?_getD,h]
theorem Look.mat (x : Look) (K : List LV → Option R) : mat 3 x.lv K = K [.str x.p,.str x.d,.bool x.r] := rfl
theorem gt_nat (i n : Nat) : decide ((i : Int) > (n : Int)) = decide (i > n) := by simp
theorem prog_CheckLooks {k : Nat} (hk : Many k) (l : List Look) (S : List LV) (K : Int × Unit → List LV → Option R) : G.action_CheckLooks.fn k (l.map Look.lv,()) S K = K (checkLooksS l,()) S := by
 have hk' := hk
 unfold Many at hk'
 unfold G.action_CheckLooks.fn checkLooksS
 dsimp only
 rw [List.length_map,show ((4000 : Int)) = ((4000 : Nat) : Int) from rfl,gt_nat]
 cases hc : decide (l.length > 4000) with
 | true => rfl
 | false =>
  have hlen : l.length ≤ 4000 := by have := of_decide_eq_false hc; omega
  rw [ifB_false]
  dsimp only
  rw [← scan_map (fun n => K (n,()) S)]
  refine rounds_scan0 (fun i => (l.map Look.lv,l.map Look.lv,(l.length : Int),(i : Int),())) S l.length k _ _ (fun rec i hi => ?_) (fun rec => ?_) (by omega)
  ·unfold G.action_CheckLooks.b0 G.action_CheckLooks.q0 G.action_CheckLooks.q1
   dsimp only
   rw [lt_nat,ifB_pos hi,idxL_nat (by simpa using hi),look_get _ _ hi]
   rw [Look.mat]
   simp only [List.getD_cons_zero,List.getD_cons_succ,asStr_str,asBool_bool]
   rw [prog_IsPath hk]
   dsimp only
   have hprev : ∀ (h0 : 0 < i) (K' : LV → Option R),idxL (l.map Look.lv) (IntKind.wrap .i64 ((i : Int) - 1)) K' = K' (l.getD (i - 1) ⟨bs [],bs [],false⟩).lv := fun h0 K' => by
    rw [wrap_pred h0 (by omega),idxL_nat (by simp; omega),look_get _ _ (by omega)]
   have htail : ∀ (J : Option R),ifB (decide ((i : Int) > 0)) (idxL (l.map Look.lv) (IntKind.wrap .i64 ((i : Int) - 1)) fun v8 => asStr (leaf v8 0) fun s9 => ifB (strLt (l.getD i ⟨bs [],bs [],false⟩).p s9 || strEq (l.getD i ⟨bs [],bs [],false⟩).p s9) (K (8,()) S) J) J =
     match decide (0 < i) && (strLt (l.getD i ⟨bs [],bs [],false⟩).p (l.getD (i - 1) ⟨bs [],bs [],false⟩).p || strEq (l.getD i ⟨bs [],bs [],false⟩).p (l.getD (i - 1) ⟨bs [],bs [],false⟩).p) with | true => K (8,()) S | false => J := fun J => by
    by_cases h0 : 0 < i
    ·rw [ifB_pos (show (i : Int) > 0 by omega),hprev h0,decide_eq_true h0]
     show ifB _ _ _ = _
     simp only [Bool.true_and]
     cases (strLt (l.getD i ⟨bs [],bs [],false⟩).p (l.getD (i - 1) ⟨bs [],bs [],false⟩).p || strEq (l.getD i ⟨bs [],bs [],false⟩).p (l.getD (i - 1) ⟨bs [],bs [],false⟩).p) <;> rfl
    ·rw [ifB_neg (show ¬ (i : Int) > 0 by omega),decide_eq_false h0]; rfl
   have hwrap := wrap_succ (show i < 9223372036854775807 by omega)
   have hdig := fun (K' : Bool × Unit → List LV → Option R) => prog_IsDigest (k := k) (l.getD i ⟨bs [],bs [],false⟩).d S K'
   simp only [hdig,hwrap,htail]
   unfold lookS
   dsimp only
   generalize (decide (0 < i) && (strLt (l.getD i ⟨bs [],bs [],false⟩).p (l.getD (i - 1) ⟨bs [],bs [],false⟩).p || strEq (l.getD i ⟨bs [],bs [],false⟩).p (l.getD (i - 1) ⟨bs [],bs [],false⟩).p)) = b5
   generalize isPathS (l.getD i ⟨bs [],bs [],false⟩).p = b1
   generalize strEq (l.getD i ⟨bs [],bs [],false⟩).d (bs []) = b2
   generalize isDigestS (l.getD i ⟨bs [],bs [],false⟩).d = b3
   generalize (l.getD i ⟨bs [],bs [],false⟩).r = b4
   cases b1 <;> cases b2 <;> cases b3 <;> cases b4 <;> cases b5 <;> rfl
  ·unfold G.action_CheckLooks.b0
   dsimp only
   rw [lt_nat,ifB_neg (Nat.lt_irrefl _)]
end
end Go.Lm
set_option maxRecDepth 100000
namespace Go.Lm
section
variable {R : Type}
theorem less_irrefl : ∀ (a : List UInt8),Op.bytesLess a a = false
 | [] => rfl
 | x :: a => by simp [Op.bytesLess,less_irrefl a]
theorem less_trans : ∀ (a b c : List UInt8),Op.bytesLess a b = true → Op.bytesLess b c = true → Op.bytesLess a c = true
 | _,[],_,h,_ => by cases ‹List UInt8› <;> simp [Op.bytesLess] at h
 | _,_ :: _,[],_,h => by simp [Op.bytesLess] at h
 | [],_ :: _,_ :: _,_,_ => rfl
 | x :: a,y :: b,z :: c,h1,h2 => by
  simp only [Op.bytesLess,Bool.or_eq_true,Bool.and_eq_true,decide_eq_true_eq,beq_iff_eq] at *
  rcases h1 with h1 | ⟨rfl,h1⟩ <;> rcases h2 with h2 | ⟨rfl,h2⟩
  ·exact .inl (UInt8.lt_trans h1 h2)
  ·exact .inl h1
  ·exact .inl h2
  ·exact .inr ⟨rfl,less_trans a b c h1 h2⟩
theorem less_total : ∀ (a b : List UInt8),Op.bytesLess a b = false → a ≠ b → Op.bytesLess b a = true
 | [],[],_,h => absurd rfl h
 | [],_ :: _,h,_ => by simp [Op.bytesLess] at h
 | _ :: _,[],_,_ => rfl
 | x :: a,y :: b,h,hne => by
  simp only [Op.bytesLess,Bool.or_eq_false_iff,Bool.and_eq_false_iff,decide_eq_false_iff_not,beq_eq_false_iff_ne] at h
  simp only [Op.bytesLess,Bool.or_eq_true,Bool.and_eq_true,decide_eq_true_eq,beq_iff_eq]
  by_cases e : x = y
  ·subst e
   have h2 := h.2.resolve_left (fun h => h rfl)
   exact .inr ⟨rfl,less_total a b h2 (fun e => hne (by rw [e]))⟩
  ·left
   have h1 : ¬ x.toNat < y.toNat := fun h' => h.1 (UInt8.lt_iff_toNat_lt.2 h')
   have h2 : x.toNat ≠ y.toNat := fun h' => e (UInt8.toNat_inj.1 h')
   exact UInt8.lt_iff_toNat_lt.2 (by omega)
theorem strLt_less (a b : ByteArray) : strLt a b = Op.bytesLess a.data.toList b.data.toList := by unfold strLt; rw [baList,baList]
theorem strLt_irrefl (a : ByteArray) : strLt a a = false := by rw [strLt_less,less_irrefl]
theorem strLt_trans {a b c : ByteArray} (h : strLt a b = true) (h' : strLt b c = true) : strLt a c = true := by rw [strLt_less] at *; exact less_trans _ _ _ h h'
theorem ba_ext {a b : ByteArray} (h : a.data.toList = b.data.toList) : a = b := by
 have := Array.ext' h
 cases a; cases b; simp_all
theorem strLt_total {a b : ByteArray} (h : (strLt a b || strEq a b) = false) : strLt b a = true := by
 rw [Bool.or_eq_false_iff] at h
 rw [strLt_less] at *
 refine less_total _ _ h.1 (fun e => ?_)
 have := ba_ext e
 have h2 := (strEq_iff a b).2 this
 rw [h2] at h; cases h.2
structure File where
 p : ByteArray
 r : Bool
 b : ByteArray
 nil : Bool
 h : nil = true → b = bs []
def File.leaf (x : File) : LV := match x.nil with
 | true => .nilsl
 | false => .sl 1 (bytesL x.b)
def File.lv (x : File) : LV := .agg [.str x.p,.bool x.r,x.leaf]
def File.zero : File := ⟨bs [],false,bs [],true,fun _ => rfl⟩
theorem File.mat (x : File) (K : List LV → Option R) : mat 3 x.lv K = K [.str x.p,.bool x.r,x.leaf] := rfl
theorem File.sl (x : File) (K : List LV → Option R) : asSl 1 x.leaf K = K (bytesL x.b) := by
 unfold File.leaf
 cases h : x.nil with
 | true => rw [x.h h]; rfl
 | false => exact asSl_sl _ _ _
theorem bytesL_len (b : ByteArray) : (bytesL b).length = b.size := by unfold bytesL; rw [List.length_map,ba_len]
theorem file_get (l : List File) (i : Nat) (h : i < l.length) : (l.map File.lv).getD i .any = (l.getD i .zero).lv := by
 simp [List.getD_eq_getElem?_getD,h]
theorem file_mem (l : List File) (i : Nat) (h : i < l.length) : l.getD i .zero ∈ l := by
 rw [List.getD_eq_getElem?_getD,List.getElem?_eq_getElem h]; exact List.getElem_mem h
def Rising (l : List File) : Prop := ∀ i j,i < j → j < l.length → strLt (l.getD i .zero).p (l.getD j .zero).p = true
def memB (l : List File) (s : ByteArray) : Bool := l.any fun x => strEq x.p s
theorem memB_iff (l : List File) (s : ByteArray) : memB l s = true ↔ ∃ j,j < l.length ∧ (l.getD j .zero).p = s := by
 unfold memB
 rw [List.any_eq_true]
 constructor
 ·rintro ⟨x,hx,he⟩
  obtain ⟨j,hj,rfl⟩ := List.mem_iff_getElem.1 hx
  exact ⟨j,hj,by rw [List.getD_eq_getElem?_getD,List.getElem?_eq_getElem hj]; exact (strEq_iff _ _).1 he⟩
 ·rintro ⟨j,hj,he⟩
  exact ⟨_,file_mem l j hj,(strEq_iff _ _).2 he⟩
theorem cut_at (n : Nat) (less : Nat → Bool) (hd : ∀ i j,i < j → j < n → less j = true → less i = true) : ∃ c,c ≤ n ∧ (∀ i,i < c → less i = true) ∧ ∀ i,c ≤ i → i < n → less i = false := by
 induction n with
 | zero => exact ⟨0,Nat.le_refl _,fun i hi => absurd hi (by omega),fun i h1 h2 => absurd h2 (by omega)⟩
 | succ n ih =>
  obtain ⟨c,h1,h2,h3⟩ := ih (fun i j hij hj => hd i j hij (by omega))
  cases hl : less n with
  | true =>
   have : c = n := by
    rcases Nat.lt_or_ge c n with h | h
    ·have := h3 c (Nat.le_refl _) h
     rw [hd c n h (by omega) hl] at this; cases this
    ·omega
   subst this
   refine ⟨c + 1,Nat.le_refl _,fun i hi => ?_,fun i h4 h5 => absurd h5 (by omega)⟩
   by_cases e : i = c
   ·subst e; exact hl
   ·exact h2 i (by omega)
  | false =>
   refine ⟨c,by omega,h2,fun i h4 h5 => ?_⟩
   by_cases e : i = n
   ·subst e; exact hl
   ·exact h3 i h4 (by omega)
theorem rounds_cut {α : Type} {b : (α → List LV → Option R) → α → List LV → Option R} (x : Nat → Nat → α) (S : List LV) (n c : Nat) (less : Nat → Bool) (fin : Nat → Option R)
  (h1 : ∀ i,i < c → less i = true) (h2 : ∀ i,c ≤ i → i < n → less i = false) (_hc : c ≤ n)
  (hb : ∀ rec lo hi,lo < hi → hi ≤ n → b rec (x lo hi) S = match less ((lo + hi) / 2) with | true => rec (x ((lo + hi) / 2 + 1) hi) S | false => rec (x lo ((lo + hi) / 2)) S)
  (he : ∀ rec lo,b rec (x lo lo) S = fin lo) : ∀ (d lo hi fuel : Nat),lo ≤ c → c ≤ hi → hi ≤ n → hi - lo ≤ d → d < fuel → rounds b fuel (x lo hi) S = fin c
 | d,lo,hi,0,_,_,_,_,h => by omega
 | 0,lo,hi,fuel + 1,a1,a2,a3,a4,_ => by
  have e1 : lo = c := by omega
  have e2 : hi = c := by omega
  subst e1; subst e2
  rw [rounds_succ,he]
 | d + 1,lo,hi,fuel + 1,a1,a2,a3,a4,a5 => by
  rw [rounds_succ]
  by_cases hlt : lo < hi
  ·rw [hb _ lo hi hlt a3]
   cases hl : less ((lo + hi) / 2) with
   | true =>
    have : (lo + hi) / 2 < c := by
     rcases Nat.lt_or_ge ((lo + hi) / 2) c with h | h
     ·exact h
     ·have := h2 _ h (by omega); rw [hl] at this; cases this
    exact rounds_cut x S n c less fin h1 h2 _hc hb he d _ hi fuel (by omega) a2 a3 (by omega) (by omega)
   | false =>
    have : c ≤ (lo + hi) / 2 := by
     rcases Nat.lt_or_ge ((lo + hi) / 2) c with h | h
     ·have := h1 _ h; rw [hl] at this; cases this
     ·exact h
    exact rounds_cut x S n c less fin h1 h2 _hc hb he d lo _ fuel a1 this (by omega) (by omega) (by omega)
  ·have : lo = hi := by omega
   subst this
   have : lo = c := by omega
   subst this
   rw [he]
theorem place {l : List File} (hl : Rising l) (s : ByteArray) : ∃ c,c ≤ l.length ∧ (∀ i,i < c → strLt (l.getD i .zero).p s = true) ∧ (∀ i,c ≤ i → i < l.length → strLt (l.getD i .zero).p s = false) ∧
  (memB l s = (decide (c < l.length) && strEq (l.getD c .zero).p s)) ∧ ∀ j,j < l.length → (l.getD j .zero).p = s → j = c := by
 obtain ⟨c,h1,h2,h3⟩ := cut_at l.length (fun i => strLt (l.getD i .zero).p s) (fun i j hij hj h => strLt_trans (hl i j hij hj) h)
 have huni : ∀ j,j < l.length → (l.getD j .zero).p = s → j = c := fun j hj he => by
  rcases Nat.lt_trichotomy j c with h | h | h
  ·have := h2 j h
   simp only [he,strLt_irrefl] at this
   cases this
  ·exact h
  ·have h4 := h3 c (Nat.le_refl _) (by omega)
   have h5 := hl c j h hj
   rw [he] at h5
   simp only [h5] at h4
   cases h4
 refine ⟨c,h1,h2,h3,?_,huni⟩
 rw [Bool.eq_iff_iff,memB_iff,Bool.and_eq_true,decide_eq_true_eq,strEq_iff]
 constructor
 ·rintro ⟨j,hj,he⟩
  obtain rfl := huni j hj he
  exact ⟨hj,he⟩
 ·rintro ⟨h4,h5⟩
  exact ⟨c,h4,h5⟩
def clashB (l : List File) (p : ByteArray) : Bool := scan (fun i => match (bt p i == 47) && memB l (p.extract 0 i) with | true => some true | false => none) false p.size 0
theorem mpAt_at {S : List LV} {m : List (LV × LV)} {T : List LV} (K : List (LV × LV) → Option R) : mpAt (S ++ .mp .str m :: T) S.length .str K = K m := by
 unfold mpAt
 have : (S ++ .mp .str m :: T).getD S.length .any = .mp .str m := by simp [List.getD_eq_getElem?_getD]
 rw [this]
 rfl
def hasM (l : List File) : Nat → List (LV × LV)
 | 0 => []
 | i + 1 => mapPut (hasM l i) (.str (l.getD i .zero).p) (.bool true)
theorem mapGet_put (m : List (LV × LV)) (a b : ByteArray) (v : LV) (hm : ∀ e,e ∈ m → ∃ s,e.1 = .str s) : mapGet (mapPut m (.str a) v) (.str b) = match decide (a = b) with | true => some v | false => mapGet m (.str b) := by
 induction m with
 | nil => simp only [mapPut,mapGet,keyEq]; cases decide (a = b) <;> rfl
 | cons e m ih =>
  obtain ⟨k,y⟩ := e
  obtain ⟨s,hs⟩ := hm (k,y) (by simp)
  simp only at hs
  subst hs
  simp only [mapPut,keyEq]
  by_cases h1 : s = a
  ·subst h1
   simp only [decide_true,mapGet,keyEq]
   by_cases h2 : s = b
   ·subst h2; simp
   ·simp [h2]
  ·simp only [decide_eq_false h1,mapGet,keyEq]
   by_cases h2 : s = b
   ·subst h2
    simp [Ne.symm h1]
   ·simp only [decide_eq_false h2]
    exact ih (fun e he => hm e (by simp [he]))
theorem hasM_keys (l : List File) : ∀ i e,e ∈ hasM l i → ∃ s,e.1 = .str s := by
 intro i
 induction i with
 | zero => intro e he; simp [hasM] at he
 | succ i ih =>
  have : ∀ (m : List (LV × LV)) (a : ByteArray) (v : LV),(∀ e,e ∈ m → ∃ s,e.1 = LV.str s) → ∀ e,e ∈ mapPut m (.str a) v → ∃ s,e.1 = .str s := by
   intro m a v
   induction m with
   | nil => intro _ e he; simp [mapPut] at he; exact ⟨a,by rw [he]⟩
   | cons x m ih2 =>
    intro hm e he
    obtain ⟨k,y⟩ := x
    simp only [mapPut] at he
    split at he
    ·rcases List.mem_cons.1 he with rfl | he
     ·exact hm (k,y) (by simp)
     ·exact hm e (by simp [he])
    ·rcases List.mem_cons.1 he with rfl | he
     ·exact hm (k,y) (by simp)
     ·exact ih2 (fun e he => hm e (by simp [he])) e he
  exact this _ _ _ ih
theorem hasM_get (l : List File) (s : ByteArray) : ∀ i,i ≤ l.length → (mapGet (hasM l i) (.str s)).getD (.bool false) = .bool (memB (l.take i) s) := by
 intro i
 induction i with
 | zero => intro _; simp [hasM,mapGet,memB]
 | succ i ih =>
  intro hi
  simp only [hasM]
  rw [mapGet_put _ _ _ _ (hasM_keys l i)]
  have ht : l.take (i + 1) = l.take i ++ [l.getD i .zero] := by
   rw [List.take_add_one,List.getD_eq_getElem?_getD,List.getElem?_eq_getElem (by omega : i < l.length)]; rfl
  have hm : memB (l.take (i + 1)) s = (memB (l.take i) s || strEq (l.getD i .zero).p s) := by
   rw [ht]; unfold memB; rw [List.any_append]; simp
  rw [hm,strEq_dec]
  cases decide ((l.getD i .zero).p = s) with
  | true => simp
  | false => simp only [Bool.or_false]; exact ih (by omega)
theorem prog_clashes {k : Nat} (hk : Many k) (l : List File) (p : ByteArray) (hp : p.size ≤ 140737488355328) (S T : List LV) (K : Bool × Unit → List LV → Option R) :
  G.blob_clashes.fn k (S.length,p,()) (S ++ .mp .str (hasM l l.length) :: T) K = K (clashB l p,()) (S ++ .mp .str (hasM l l.length) :: T) := by
 unfold Many at hk
 unfold G.blob_clashes.fn clashB
 rw [← scan_map (fun b => K (b,()) (S ++ .mp .str (hasM l l.length) :: T))]
 refine rounds_scan0 (fun i => (S.length,p,(p.size : Int),(i : Int),())) _ p.size k _ _ (fun rec i hi => ?_) (fun rec => ?_) (by omega)
 ·unfold G.blob_clashes.b0
  dsimp only
  rw [lt_nat,ifB_pos hi,idxStr_nat hi,slStr_nat (by omega),mpAt_at,hasM_get l _ _ (Nat.le_refl _),List.take_length,asBool_bool,wrap_succ (by omega)]
  generalize (bt p i == 47) = b1
  generalize memB l (p.extract 0 i) = b2
  cases b1 <;> cases b2 <;> rfl
 ·unfold G.blob_clashes.b0
  dsimp only
  rw [lt_nat,ifB_neg (Nat.lt_irrefl _)]
def sumB (l : List File) : Nat → Nat
 | 0 => 0
 | i + 1 => sumB l i + (l.getD i .zero).b.size
def fileS (l : List File) (i : Nat) : Option Int :=
 match !(isPathS (l.getD i .zero).p) with
 | true => some 3
 | false => match decide ((l.getD i .zero).b.size > 100000) with
  | true => some 2
  | false => match decide (0 < i) && (strLt (l.getD i .zero).p (l.getD (i - 1) .zero).p || strEq (l.getD i .zero).p (l.getD (i - 1) .zero).p) with
   | true => some 8
   | false => none
def clashS (l : List File) (i : Nat) : Option Int := match clashB l (l.getD i .zero).p with
 | true => some 12
 | false => none
def checkFilesS (l : List File) : Int := match decide (l.length > 1000) with
 | true => 2
 | false => scan (fileS l) (scan (clashS l) (match decide (sumB l l.length > 2000000) with | true => 2 | false => 0) l.length 0) l.length 0
theorem sumB_le (l : List File) (hb : ∀ x ∈ l,x.b.size ≤ 140737488355328) : ∀ i,i ≤ l.length → sumB l i ≤ i * 140737488355328 := by
 intro i
 induction i with
 | zero => intro _; simp [sumB]
 | succ i ih =>
  intro hi
  have h1 := ih (by omega)
  have h2 := hb _ (file_mem l i (by omega))
  simp only [sumB]
  rw [Nat.succ_mul]; omega
structure FilesOk (l : List File) : Prop where
 n : l.length ≤ 140737488355328
 b : ∀ x ∈ l,x.b.size ≤ 140737488355328
 p : ∀ x ∈ l,x.p.size ≤ 140737488355328
theorem setLast (S : List LV) (a b : LV) : (S ++ [a]).set S.length b = S ++ [b] := by
 rw [List.set_append_right _ _ (Nat.le_refl _),Nat.sub_self]; rfl
theorem scan_pred {β : Type} {P : β → Prop} {step : Nat → Option β} {fin : β} (hs : ∀ j r,step j = some r → P r) (hf : P fin) : ∀ (d i : Nat),P (scan step fin d i)
 | 0,_ => hf
 | d + 1,i => by
  simp only [scan]
  cases h : step i with
  | some r => exact hs i r h
  | none => exact scan_pred hs hf d (i + 1)
theorem prog_CheckFiles0 {k : Nat} (hk : Many k) (l : List File) (ok : FilesOk l) (S : List LV) : ∃ G',∀ {R : Type} (K : Int × Unit → List LV → Option R),G.blob_CheckFiles.fn0 k (l.map File.lv,()) S K = K (checkFilesS l,()) (S ++ G') := by
 have hk' := hk
 unfold Many at hk'
 unfold checkFilesS
 cases hc : decide (l.length > 1000) with
 | true =>
  refine ⟨[],fun {R} K => ?_⟩
  unfold G.blob_CheckFiles.fn0
  dsimp only
  rw [List.length_map,show ((1000 : Int)) = ((1000 : Nat) : Int) from rfl,gt_nat,hc,List.append_nil]; rfl
 | false =>
  have hlen : l.length ≤ 1000 := by have := of_decide_eq_false hc; omega
  let code : Int × List LV := scan (fun i => (fileS l i).map fun n => (n,S ++ [.mp .str (hasM l i)])) (scan (clashS l) (match decide (sumB l l.length > 2000000) with | true => 2 | false => 0) l.length 0,S ++ [.mp .str (hasM l l.length)]) l.length 0
  have hfst : code.1 = scan (fileS l) (scan (clashS l) (match decide (sumB l l.length > 2000000) with | true => 2 | false => 0) l.length 0) l.length 0 := by
   show Prod.fst (scan _ _ _ _) = _
   rw [← scan_map Prod.fst]
   refine scan_congr _ _ (fun j _ _ => ?_) rfl
   cases fileS l j <;> rfl
  have hsnd : ∃ G',code.2 = S ++ G' := scan_pred (P := fun r : Int × List LV => ∃ G',r.2 = S ++ G') (fun j r h => by
   cases hj : fileS l j with
   | none => rw [hj] at h; cases h
   | some n => rw [hj] at h; cases h; exact ⟨_,rfl⟩) ⟨_,rfl⟩ _ _
  obtain ⟨G',hG⟩ := hsnd
  refine ⟨G',fun {R} K => ?_⟩
  rw [← hG]
  dsimp only
  rw [← hfst]
  unfold G.blob_CheckFiles.fn0
  dsimp only
  rw [List.length_map,show ((1000 : Int)) = ((1000 : Nat) : Int) from rfl,gt_nat,hc,ifB_false]
  refine Eq.trans ?_ (scan_map (fun r : Int × List LV => K (r.1,()) r.2) l.length 0)
  unfold newObj
  refine rounds_scan (fun i => (l.map File.lv,(sumB l i : Int),S.length,l.map File.lv,(l.length : Int),(i : Int),())) (fun i => S ++ [.mp .str (hasM l i)]) l.length _ _ (fun rec i hi => ?_) (fun rec => ?_) l.length 0 k (by omega) (by omega)
  ·unfold G.blob_CheckFiles.b0 G.blob_CheckFiles.q0 G.blob_CheckFiles.q1
   dsimp only
   have hsum := sumB_le l ok.b i (by omega)
   have hbi := ok.b _ (file_mem l i hi)
   have hw : IntKind.wrap .i64 ((sumB l i : Int) + ((bytesL (l.getD i .zero).b).length : Int)) = (sumB l (i + 1) : Int) := by
    rw [bytesL_len,wrap_id (by omega) (by omega)]; simp only [sumB]; omega
   rw [lt_nat,ifB_pos hi,idxL_nat (by simpa using hi),file_get _ _ hi,File.mat]
   simp only [List.getD_cons_zero,List.getD_cons_succ,asStr_str,asBool_bool,File.sl,hw,wrap_succ (show i < 9223372036854775807 by omega)]
   rw [prog_IsPath hk]
   dsimp only
   simp only [mpAt_at,setS,setLast]
   rw [bytesL_len,show ((100000 : Int)) = ((100000 : Nat) : Int) from rfl,gt_nat]
   have hprev : ∀ (h0 : 0 < i) (K' : LV → Option R),idxL (l.map File.lv) (IntKind.wrap .i64 ((i : Int) - 1)) K' = K' (l.getD (i - 1) .zero).lv := fun h0 K' => by
    rw [wrap_pred h0 (by omega),idxL_nat (by simp; omega),file_get _ _ (by omega)]
   have htail : ∀ (A J : Option R),ifB (decide ((i : Int) > 0)) (idxL (l.map File.lv) (IntKind.wrap .i64 ((i : Int) - 1)) fun v8 => asStr (leaf v8 0) fun s9 => ifB (strLt (l.getD i .zero).p s9 || strEq (l.getD i .zero).p s9) A J) J =
     match decide (0 < i) && (strLt (l.getD i .zero).p (l.getD (i - 1) .zero).p || strEq (l.getD i .zero).p (l.getD (i - 1) .zero).p) with | true => A | false => J := fun A J => by
    by_cases h0 : 0 < i
    ·rw [ifB_pos (show (i : Int) > 0 by omega),hprev h0,decide_eq_true h0]
     show ifB _ _ _ = _
     simp only [Bool.true_and]
     cases (strLt (l.getD i .zero).p (l.getD (i - 1) .zero).p || strEq (l.getD i .zero).p (l.getD (i - 1) .zero).p) <;> rfl
    ·rw [ifB_neg (show ¬ (i : Int) > 0 by omega),decide_eq_false h0]; rfl
   simp only [htail]
   unfold fileS
   generalize (decide (0 < i) && (strLt (l.getD i .zero).p (l.getD (i - 1) .zero).p || strEq (l.getD i .zero).p (l.getD (i - 1) .zero).p)) = b3
   generalize isPathS (l.getD i .zero).p = b1
   generalize decide ((l.getD i .zero).b.size > 100000) = b2
   cases b1 <;> cases b2 <;> cases b3 <;> rfl
  ·unfold G.blob_CheckFiles.b0
   dsimp only
   rw [lt_nat,ifB_neg (Nat.lt_irrefl _),List.length_map]
   refine Eq.trans ?_ (scan_map (fun n => K (n,()) (S ++ [.mp .str (hasM l l.length)])) (step := clashS l) l.length 0)
   refine rounds_scan0 (fun i => ((sumB l l.length : Int),S.length,l.map File.lv,(l.length : Int),(i : Int),())) _ l.length k _ _ (fun rec i hi => ?_) (fun rec => ?_) (by omega)
   ·unfold G.blob_CheckFiles.b1
    dsimp only
    rw [lt_nat,ifB_pos hi,idxL_nat (by simpa using hi),file_get _ _ hi,File.mat]
    simp only [List.getD_cons_zero,List.getD_cons_succ,asStr_str,asBool_bool,File.sl]
    rw [prog_clashes hk l _ (ok.p _ (file_mem l i hi)),wrap_succ (by omega)]
    unfold clashS
    cases clashB l (l.getD i .zero).p <;> rfl
   ·unfold G.blob_CheckFiles.b1
    dsimp only
    rw [lt_nat,ifB_neg (Nat.lt_irrefl _),show ((2000000 : Int)) = ((2000000 : Nat) : Int) from rfl,gt_nat]
    cases decide (sumB l l.length > 2000000) <;> rfl
theorem prog_CheckFiles {k : Nat} (hk : Many k) (l : List File) (ok : FilesOk l) (S : List LV) (K : Int × Unit → List LV → Option R) : G.blob_CheckFiles.fn k (l.map File.lv,()) S K = K (checkFilesS l,()) S := by
 obtain ⟨G',h⟩ := prog_CheckFiles0 hk l ok S
 exact popK_at (h _) rfl
end
end Go.Lm
set_option maxRecDepth 100000
namespace Go.Lm
section
variable {R : Type}
def fnvAt (b : ByteArray) : Nat → Int
 | 0 => 14695981039346656037
 | i + 1 => IntKind.wrap .u64 ((bitI .xor .u64 (fnvAt b i) (IntKind.wrap .u64 (bt b i))) * (1099511628211 : Int))
theorem wrap_u64_id {n : Int} (h0 : 0 ≤ n) (h : n < 18446744073709551616) : IntKind.wrap .u64 n = n := by
 rw [show IntKind.wrap .u64 n = n.emod 18446744073709551616 from rfl]
 exact Int.emod_eq_of_lt h0 h
def fnvN (b : ByteArray) : Nat := (fnvAt b b.size).toNat
def nib (h j : Nat) : Nat := h / 16 ^ j % 16
def hexU (n : Nat) : UInt8 := ([48,49,50,51,52,53,54,55,56,57,97,98,99,100,101,102] : List UInt8).getD n 0
def digestS (b : ByteArray) : ByteArray := ⟨((List.range 16).map fun m => hexU (nib (fnvN b) (15 - m))).toArray⟩
end
end Go.Lm
set_option maxRecDepth 100000
namespace Go.Lm
section
variable {R : Type}
theorem cmp_lt : ∀ (a b : List UInt8),decide (Lib.compareBytes a b < 0) = Op.bytesLess a b
 | [],[] => rfl
 | [],_ :: _ => rfl
 | _ :: _,[] => rfl
 | a :: u,b :: v => by
  simp only [Lib.compareBytes,Op.bytesLess]
  by_cases h : a < b
  ·simp [h]
  ·by_cases h2 : b < a
   ·have : a ≠ b := fun e => by subst e; exact absurd h2 (UInt8.lt_irrefl _)
    simp [h,h2,this]
   ·have : a = b := UInt8.le_antisymm (UInt8.not_lt.1 h2) (UInt8.not_lt.1 h)
    simp only [h,h2,if_false,decide_false,Bool.false_or]
    rw [cmp_lt u v,this]
    simp
theorem cmp_eq : ∀ (a b : List UInt8),Lib.compareBytes a b = 0 ↔ a = b
 | [],[] => by simp [Lib.compareBytes]
 | [],_ :: _ => by simp [Lib.compareBytes]
 | _ :: _,[] => by simp [Lib.compareBytes]
 | a :: u,b :: v => by
  simp only [Lib.compareBytes]
  by_cases h : a < b
  ·have : a ≠ b := fun e => by subst e; exact absurd h (UInt8.lt_irrefl _)
   simp [h,this]
  ·by_cases h2 : b < a
   ·have : a ≠ b := fun e => by subst e; exact absurd h2 (UInt8.lt_irrefl _)
    simp [h,h2,this]
   ·have : a = b := UInt8.le_antisymm (UInt8.not_lt.1 h2) (UInt8.not_lt.1 h)
    rw [if_neg h,if_neg h2,cmp_eq u v,this]
    simp
theorem cmp_strLt (a b : ByteArray) : decide (Lib.compareBytes a.data.toList b.data.toList < 0) = strLt a b := by rw [cmp_lt,strLt_less]
theorem cmp_strEq (a b : ByteArray) : (Lib.compareBytes a.data.toList b.data.toList == 0) = strEq a b := by
 rw [Bool.eq_iff_iff,beq_iff_eq,cmp_eq,strEq_iff]
 exact ⟨ba_ext,fun e => by rw [e]⟩
theorem mid_at (lo hi : Nat) (h : lo + hi < 9223372036854775807) : IntKind.wrap .i64 (shI .shr .u64 (IntKind.wrap .u64 (IntKind.wrap .i64 ((lo : Int) + (hi : Int)))) 1) = (((lo + hi) / 2 : Nat) : Int) := by
 rw [wrap_id (n := (lo : Int) + hi) (by omega) (by omega),wrap_u64_id (by omega) (by omega)]
 have : shI .shr .u64 ((lo : Int) + hi) 1 = (((lo + hi) / 2 : Nat) : Int) := by
  show Int.fdiv _ (2 ^ (min (1 : Int).toNat 64)) = _
  rw [show ((2 : Int) ^ (min (1 : Int).toNat 64)) = 2 from rfl,Int.fdiv_eq_ediv_of_nonneg _ (by omega)]
  omega
 rw [this,wrap_id (by omega) (by omega)]
def atS (l : List File) (p : ByteArray) : Look := scan (fun i => match strEq (l.getD i .zero).p p with | true => some ⟨p,digestS (l.getD i .zero).b,(l.getD i .zero).r⟩ | false => none) ⟨p,bs [],false⟩ l.length 0
def Look.tup (x : Look) : (ByteArray × ByteArray × Bool × Unit) × Unit := ((x.p,x.d,x.r,()),())
end
end Go.Lm
set_option maxRecDepth 100000
namespace Go.Lm
section
variable {R : Type}
abbrev Look.zero : Look := ⟨bs [],bs [],false⟩
def looksAt (l : List Look) (files : List File) : List Look := l.map fun x => atS files x.p
theorem app_one {b : Nat} {ys : List LV} {x : LV} {K : List LV → Option R} (h : (ys.length + 1) * b ≤ 140737488355328) (h2 : ys.length + 1 ≤ 9223372036854775807) : app b ys [x] K = K (ys ++ [x]) := app_le h h2
def File.cp (x : File) : File := ⟨x.p,x.r,x.b,false,fun h => by cases h⟩
end
end Go.Lm
set_option maxRecDepth 100000
namespace Go.Lm
section
variable {R : Type}
def withinB (n a b : Int) : Bool := decide (n ≥ a) && decide (n ≤ b)
end
end Go.Lm
set_option maxRecDepth 100000
namespace Go.Lm
section
variable {R : Type}
def okB (c : Int) : Bool := (c == 10) || (decide (c ≥ 32) && decide (c ≤ 126))
def isTextS (s : ByteArray) : Bool := scan (fun i => match okB (bt s i) with | true => none | false => some false) (strEq s (bs []) || (bt s ((s.size - 1 : Nat) : Int) == 10)) s.size 0
theorem pred_bad (k x : Nat) : predA ((G.action_CheckResult_1.en (R := Bool) k).h) x = some (!(okB (x : Int))) := by
 show (G.action_CheckResult_1.fn k ((x : Int),()) [] fun r S => (match resE G.action_CheckResult_1.rs r with | .bool b => some b | _ => none) : Option Bool) = _
 unfold G.action_CheckResult_1.fn okB
 dsimp only
 have e1 : ((x : Int) != 10) = !((x : Int) == 10) := rfl
 rw [e1]
 cases ((x : Int) == 10) with
 | true => rfl
 | false =>
  by_cases h1 : (x : Int) < 32
  ·have h2 : ¬ ((x : Int) ≥ 32) := by omega
   rw [Bool.not_false,ifB_true,ifB_pos h1]
   simp only [h2,decide_false,Bool.false_and,Bool.or_false]
   rfl
  ·have h2 : (x : Int) ≥ 32 := by omega
   rw [Bool.not_false,ifB_true,ifB_neg h1]
   by_cases h3 : (x : Int) > 126
   ·have h4 : ¬ ((x : Int) ≤ 126) := by omega
    simp only [h3,h4,decide_false,decide_true,Bool.and_false,Bool.or_false]
    rfl
   ·have h4 : (x : Int) ≤ 126 := by omega
    simp only [h2,h3,h4,decide_false,decide_true,Bool.and_true,Bool.or_true]
    rfl
theorem idx_bad {p : Nat → Bool} (hp : ∀ x,x ≤ 1114111 → p x = !(okB (x : Int))) (s : ByteArray) : ∀ (f pos : Nat),s.size ≤ pos + f → decide (Lib.idxFuncFrom p true s f pos ≥ 0) = scan (fun i => match okB (bt s i) with | true => none | false => some true) false (s.size - pos) pos
 | 0,pos,h => by
  have : s.size - pos = 0 := by omega
  rw [this]; rfl
 | f + 1,pos,h => by
  unfold Lib.idxFuncFrom
  by_cases hps : pos < s.size
  ·obtain ⟨d,hd⟩ : ∃ d,s.size - pos = d + 1 := ⟨s.size - pos - 1,by omega⟩
   rw [if_pos hps,hd]
   simp only [scan]
   rw [hp _ (Lib.rune_le s pos)]
   have hb := bt_nat hps
   rcases Nat.lt_or_ge (s[pos]'hps).toNat 128 with h1 | h1
   ·rw [decode_ascii s pos hps h1,← hb]
    cases ho : okB (bt s pos) with
    | true =>
     have ih := idx_bad hp s f (pos + 1) (by omega)
     have : s.size - (pos + 1) = d := by omega
     rw [this] at ih
     simpa using ih
    | false => simp
   ·obtain ⟨h2,_⟩ := decode_high s pos hps h1
    have h3 : okB (((Utf8.decode s pos).1 : Nat) : Int) = false := by
     unfold okB
     have e1 : ¬ ((((Utf8.decode s pos).1 : Nat) : Int) ≤ 126) := by omega
     have e2 : ((((Utf8.decode s pos).1 : Nat) : Int) == 10) = false := by simp; omega
     rw [e2]; simp only [e1,decide_false,Bool.and_false,Bool.or_false]
    have h4 : okB (bt s pos) = false := by
     rw [hb]
     unfold okB
     have e1 : ¬ (((s[pos]'hps).toNat : Int) ≤ 126) := by omega
     have e2 : (((s[pos]'hps).toNat : Int) == 10) = false := by simp; omega
     rw [e2]; simp only [e1,decide_false,Bool.and_false,Bool.or_false]
    rw [h3,h4]
    simp
  ·have : s.size - pos = 0 := by omega
   rw [if_neg hps,this]; rfl
def badB (s : ByteArray) : Bool := scan (fun i => match okB (bt s i) with | true => none | false => some true) false s.size 0
theorem prog_ContainsFunc (k : Nat) (s : ByteArray) (S : List LV) (K : Bool × Unit → List LV → Option R) : G.strings_ContainsFunc_at_action_CheckResult_1.fn k (s,(),()) S K = K (badB s,()) S := by
 unfold G.strings_ContainsFunc_at_action_CheckResult_1.fn G.strings_IndexFunc_at_action_CheckResult_1.fn H.indexFunc_at_action_CheckResult_1.fn H.indexFunc.fn handF idxFF
 dsimp only
 have hok : H.indexFuncOk ((G.action_CheckResult_1.en (R := Bool) k).h) := fun x _ => by rw [pred_bad]; simp
 rw [show (Classical.propDecidable (H.indexFuncOk ((G.action_CheckResult_1.en (R := Bool) k).h))).decide = true from @decide_eq_true _ (Classical.propDecidable _) hok]
 dsimp only
 have h := idx_bad (p := fun x => (predA ((G.action_CheckResult_1.en (R := Bool) k).h) x).getD false) (fun x _ => by simp only [pred_bad]; rfl) s s.size 0 (by omega)
 rw [Nat.sub_zero] at h
 unfold badB
 rw [← h]
 rfl
end
end Go.Lm
set_option maxRecDepth 100000
namespace Go.Lm
section
variable {R : Type}
structure Res where
 code : Int
 text : ByteArray
 files : List File
 looks : List Look
 cmd : Int
abbrev Res.tup (x : Res) : Int × ByteArray × List LV × List LV × Int × Unit := (x.code,x.text,x.files.map File.lv,x.looks.map Look.lv,x.cmd,())
def tailS (x : Res) : Int := match checkFilesS x.files == 0 with
 | false => checkFilesS x.files
 | true => match decide (x.files.length > 0) && (x.code != 0) with
  | true => 3
  | false => checkLooksS x.looks
def checkResS (x : Res) : Int := match withinB x.code 0 999999 && withinB x.cmd 0 50 with
 | false => 1
 | true => match decide (x.text.size > 100000) with
  | true => 2
  | false => match isTextS x.text with
   | false => 3
   | true => tailS x
structure ResOk (x : Res) : Prop where
 t : x.text.size ≤ 140737488355328
 f : FilesOk x.files
 d : ∀ y ∈ x.looks,y.d.size ≤ 140737488355328
theorem prog_HasSuffix (k : Nat) (s : ByteArray) (hs : s.size ≤ 140737488355328) (h0 : 0 < s.size) (S : List LV) (K : Bool × Unit → List LV → Option R) : G.strings_HasSuffix.fn k (s,bs [10],()) S K = K (bt s ((s.size - 1 : Nat) : Int) == 10,()) S := by
 unfold G.strings_HasSuffix.fn G.internal_stringslite_HasSuffix.fn
 dsimp only
 have e1 : ((bs [10]).size : Int) = 1 := rfl
 rw [e1,ifB_pos (by omega),wrap_pred h0 (by omega)]
 unfold slStr
 rw [ifB_pos ⟨by omega,by omega,by omega⟩]
 have e2 : strEq (s.extract ((s.size - 1 : Nat) : Int).toNat ((s.size : Int)).toNat) (bs [10]) = (bt s ((s.size - 1 : Nat) : Int) == 10) := by
  have hlt : s.size - 1 < s.size := by omega
  have e3 : s.extract (s.size - 1) s.size = ⟨#[s[s.size - 1]'hlt]⟩ := by
   apply ba_ext
   apply List.ext_getElem?
   intro i
   have hd : s.data.size = s.size := rfl
   simp only [ByteArray.data_extract,Array.toList_extract,List.extract_eq_take_drop]
   rcases Nat.eq_zero_or_pos i with rfl | hi
   ·rw [List.getElem?_take_of_lt (by omega),List.getElem?_drop]
    simp [hd,hlt]
    rfl
   ·rw [List.getElem?_eq_none (by simp; omega),List.getElem?_eq_none (by simp; omega)]
  rw [Int.toNat_natCast,Int.toNat_natCast,e3,bt_nat hlt,Bool.eq_iff_iff,strEq_iff,beq_iff_eq]
  constructor
  ·intro h
   have h2 : [s[s.size - 1]'hlt] = [(10 : UInt8)] := congrArg (fun b : ByteArray => b.data.toList) h
   have h3 : s[s.size - 1]'hlt = 10 := List.head_eq_of_cons_eq h2
   rw [h3]; rfl
  ·intro h
   have h3 : s[s.size - 1]'hlt = 10 := by
    apply UInt8.toNat_inj.1
    have : (s[s.size - 1]'hlt).toNat = 10 := by omega
    rw [this]; rfl
   rw [h3]
   rfl
 show K (strEq _ _,()) S = _
 rw [e2]
theorem text_bad (s : ByteArray) : isTextS s = (!(badB s) && (strEq s (bs []) || (bt s ((s.size - 1 : Nat) : Int) == 10))) := by
 unfold isTextS badB
 generalize (strEq s (bs []) || (bt s ((s.size - 1 : Nat) : Int) == 10)) = fin
 have : ∀ (d i : Nat),scan (fun i => match okB (bt s i) with | true => none | false => some false) fin d i = (!(scan (fun i => match okB (bt s i) with | true => none | false => some true) false d i) && fin) := by
  intro d
  induction d with
  | zero => intro i; simp [scan]
  | succ d ih =>
   intro i
   simp only [scan]
   cases okB (bt s i) with
   | true => exact ih _
   | false => rfl
 exact this _ _
end
end Go.Lm
set_option maxRecDepth 100000
namespace Go.Lm
section
variable {R : Type}
def midS (x : Res) (b : Bool) (Jn Jr : Int → Option R) : Option R := match b with
 | true => Jr 1
 | false => match decide (x.text.size > 100000) with
  | true => Jr 2
  | false => match isTextS x.text with
   | false => Jr 3
   | true => Jn 0
theorem q0_at (k : Nat) (x : Res) (ok : ResOk x) (b : Bool) (S : List LV) (Jn : (Int × ByteArray × List LV × List LV × Int × Unit) × Unit → List LV → Option R) (Jr : Int × Unit → List LV → Option R) :
  G.action_CheckResult.q0 k Jn Jr (x.tup,b,()) S = midS x b (fun _ => Jn (x.tup,()) S) (fun n => Jr (n,()) S) := by
 unfold G.action_CheckResult.q0 midS
 dsimp only
 cases b with
 | true => rfl
 | false =>
  have e1 : decide ((x.text.size : Int) > (100000 : Int)) = decide (x.text.size > 100000) := gt_nat _ 100000
  rw [ifB_false,e1]
  cases decide (x.text.size > 100000) with
  | true => rfl
  | false =>
   rw [ifB_false,prog_ContainsFunc,text_bad]
   dsimp only
   cases badB x.text with
   | true => rfl
   | false =>
    rw [ifB_false,Bool.not_false,Bool.true_and]
    cases he : strEq x.text (bs []) with
    | true => rfl
    | false =>
     have h0 : 0 < x.text.size := by
      rcases Nat.eq_zero_or_pos x.text.size with h | h
      ·have : x.text = bs [] := ba_ext (by
        have : x.text.data.toList.length = 0 := by rw [ba_len]; exact h
        rw [List.eq_nil_of_length_eq_zero this]; rfl)
       rw [(strEq_iff _ _).2 this] at he; cases he
      ·exact h
     rw [Bool.not_false,ifB_true,prog_HasSuffix k _ ok.t h0,Bool.false_or]
     dsimp only
     cases (bt x.text ((x.text.size - 1 : Nat) : Int) == 10) <;> rfl
theorem q2_at {k : Nat} (hk : Many k) (x : Res) (ok : ResOk x) (S : List LV) (Jr : Int × Unit → List LV → Option R) : G.action_CheckResult.q2 k Jr (x.tup,()) S = Jr (tailS x,()) S := by
 unfold G.action_CheckResult.q2 tailS
 dsimp only
 rw [prog_CheckFiles hk _ ok.f]
 unfold G.action_CheckResult.q3
 dsimp only
 have h0 : ∀ n : Int,(n != 0) = !(n == 0) := fun n => rfl
 rw [h0]
 cases hc : checkFilesS x.files == 0 with
 | false => rfl
 | true =>
  rw [Bool.not_true,ifB_false]
  unfold G.action_CheckResult.q4 G.action_CheckResult.q1
  dsimp only
  have e2 : decide (((x.files.map File.lv).length : Int) > (0 : Int)) = decide (x.files.length > 0) := by rw [List.length_map]; exact gt_nat _ 0
  rw [e2,prog_CheckLooks hk]
  cases decide (x.files.length > 0) <;> cases (x.code != 0) <;> rfl
theorem prog_CheckResult {k : Nat} (hk : Many k) (x : Res) (ok : ResOk x) (S : List LV) (K : Int × Unit → List LV → Option R) : G.action_CheckResult.fn k (x.tup,()) S K = K (checkResS x,()) S := by
 unfold G.action_CheckResult.fn
 dsimp only
 simp only [q0_at k x ok,q2_at hk x ok]
 unfold checkResS withinB
 by_cases h1 : x.code < 0
 ·have h2 : ¬ (x.code ≥ 0) := by omega
  rw [ifB_pos h1]
  simp only [h2,decide_false,Bool.false_and]
  rfl
 ·have h2 : x.code ≥ 0 := by omega
  rw [ifB_neg h1]
  by_cases h3 : x.code > 999999
  ·have h4 : ¬ (x.code ≤ 999999) := by omega
   rw [ifB_pos h3]
   simp only [h4,decide_false,Bool.and_false,Bool.false_and]
   rfl
  ·have h4 : x.code ≤ 999999 := by omega
   rw [ifB_neg h3]
   by_cases h5 : x.cmd < 0
   ·have h6 : ¬ (x.cmd ≥ 0) := by omega
    rw [ifB_pos h5]
    simp only [h6,decide_false,Bool.false_and,Bool.and_false]
    rfl
   ·have h6 : x.cmd ≥ 0 := by omega
    rw [ifB_neg h5]
    by_cases h7 : x.cmd > 50
    ·have h8 : ¬ (x.cmd ≤ 50) := by omega
     simp only [h2,h4,h6,h7,h8,decide_false,decide_true,Bool.and_false,Bool.and_true]
     rfl
    ·have h8 : x.cmd ≤ 50 := by omega
     simp only [h2,h4,h6,h7,h8,decide_false,decide_true,Bool.and_true,midS]
     cases decide (x.text.size > 100000) with
     | true => rfl
     | false => cases isTextS x.text <;> rfl
end
end Go.Lm
namespace Go.Lm
abbrev Bs := List UInt8
def digB (b : UInt8) : Bool := decide (48 ≤ b.toNat) && decide (b.toNat ≤ 57)
def isNumL (l : Bs) (d : Nat) : Bool := decide (1 ≤ l.length) && (decide (l.length ≤ d) && (l.all digB && (decide (l.head? ≠ some 48) || decide (l.length = 1))))
end Go.Lm
set_option maxRecDepth 100000
namespace Go.Lm
def toL (s : ByteArray) : Bs := s.data.toList
def ofL (l : Bs) : ByteArray := ⟨l.toArray⟩
@[simp] theorem ofL_toL (s : ByteArray) : ofL (toL s) = s := by cases s; rfl
theorem toL_len (s : ByteArray) : (toL s).length = s.size := by unfold toL; rw [Array.length_toList]; rfl
theorem toL_app (a b : ByteArray) : toL (a ++ b) = toL a ++ toL b := by unfold toL; simp
theorem toL_inj {a b : ByteArray} (h : toL a = toL b) : a = b := by rw [← ofL_toL a,← ofL_toL b,h]
theorem toL_extract (s : ByteArray) (i j : Nat) : toL (s.extract i j) = ((toL s).drop i).take (j - i) := by
 unfold toL
 simp only [ByteArray.data_extract,Array.toList_extract,List.extract_eq_take_drop]
def isNumS (s : ByteArray) (d : Nat) : Bool := isNumL (toL s) d
end Go.Lm
set_option maxRecDepth 100000
namespace Go.Lm
section
variable {R : Type}
theorem index_at {k : Nat} (hk : Many k) (l : List ByteArray) (hl : l.length ≤ 140737488355328) (w : ByteArray) (S : List LV) (K : Int × Unit → List LV → Option R) :
  G.slices_Index_s_string_string.fn k (l.map LV.str,w,()) S K = K (scan (fun i => match strEq w (l.getD i (bs [])) with | true => some (i : Int) | false => none) (-1) l.length 0,()) S := by
 unfold Many at hk
 unfold G.slices_Index_s_string_string.fn
 dsimp only
 rw [← scan_map (fun n : Int => K (n,()) S),List.length_map]
 refine rounds_scan0 (fun i => (l.map LV.str,w,(l.length : Int),(i : Int),())) S l.length k _ _ (fun rec i hi => ?_) (fun rec => ?_) (by omega)
 ·unfold G.slices_Index_s_string_string.b0
  dsimp only
  rw [lt_nat,ifB_pos hi,idxL_nat (by simpa using hi),map_str_get l i hi]
  show ifB (strEq w (l.getD i (bs []))) _ _ = _
  rw [wrap_succ (by omega)]
  cases strEq w (l.getD i (bs [])) <;> rfl
 ·unfold G.slices_Index_s_string_string.b0
  dsimp only
  rw [lt_nat,ifB_neg (Nat.lt_irrefl _)]
theorem scan_any (p : Nat → Bool) : ∀ (d i : Nat),decide (scan (fun j => match p j with | true => some (j : Int) | false => none) (-1) d i ≥ 0) = (List.range' i d).any p
 | 0,i => rfl
 | d + 1,i => by
  have ih := scan_any p d (i + 1)
  rw [List.range'_succ,List.any_cons,← ih]
  by_cases h : p i = true
  ·simp [scan,h]
  ·have h : p i = false := by simpa using h
   simp [scan,h]
theorem any_range {α : Type} (z : α) (p : α → Bool) : ∀ (l : List α) (m : List α),(List.range' m.length l.length).any (fun j => p ((m ++ l).getD j z)) = l.any p
 | [],m => rfl
 | x :: l,m => by
  simp only [List.length_cons,List.range'_succ,List.any_cons]
  have e : (m ++ x :: l).getD m.length z = x := by simp [List.getD_eq_getElem?_getD]
  rw [e]
  have := any_range z p l (m ++ [x])
  simp only [List.length_append,List.length_cons,List.length_nil,Nat.zero_add,List.append_assoc,List.cons_append,List.nil_append] at this
  rw [this]
theorem contains_at {k : Nat} (hk : Many k) (l : List ByteArray) (hl : l.length ≤ 140737488355328) (w : ByteArray) (S : List LV) (K : Bool × Unit → List LV → Option R) :
  G.slices_Contains_s_string_string.fn k (l.map LV.str,w,()) S K = K (l.any (strEq w),()) S := by
 unfold G.slices_Contains_s_string_string.fn
 try dsimp only
 rw [index_at hk l hl]
 dsimp only
 rw [scan_any (fun j => strEq w (l.getD j (bs []))),← List.range_eq_range']
 have := any_range (bs []) (strEq w) l []
 simp only [List.length_nil,List.nil_append] at this
 rw [List.range_eq_range',this]
theorem dig_key (b : UInt8) : (bs [48,49,50,51,52,53,54,55,56,57]).data.toList.contains b = digB b := by
 have key : ∀ n : Fin 256,(bs [48,49,50,51,52,53,54,55,56,57]).data.toList.contains (n.val.toUInt8) = digB (n.val.toUInt8) := by decide +kernel
 have := key ⟨b.toNat,b.toNat_lt⟩
 simpa only [Nat.toUInt8,UInt8.ofNat_toNat] using this
theorem trim_dig (k : Nat) (s : ByteArray) (hs : s.size ≤ 140737488355328) : ∃ t,strEq t (bs []) = (toL s).all digB ∧ ∀ (S : List LV) (K : ByteArray × Unit → List LV → Option R),H.Trim.fn k (s,bs [48,49,50,51,52,53,54,55,56,57],()) S K = K (t,()) S := by
 have : (decide (s.size ≤ 9223372036854775807) && decide ((bs [48,49,50,51,52,53,54,55,56,57]).size < 4294967281) && (bs [48,49,50,51,52,53,54,55,56,57]).data.toList.all (fun b => decide (b.toNat < 128))) = true := by
  rw [decide_eq_true (by omega)]; decide +kernel
 refine ⟨_,?_,fun S K => by unfold H.Trim.fn handF trimF; dsimp only; rw [this]⟩
 rw [Bool.eq_iff_iff,strEq_iff]
 have e : Lib.trimS s.data.toList (bs [48,49,50,51,52,53,54,55,56,57]).data.toList = [] ↔ (toL s).all digB = true := by
  rw [trim_nil]
  simp only [dig_key]
  rfl
 rw [← e]
 constructor
 ·intro h
  have := congrArg toL h
  simpa [toL,bs] using this
 ·intro h; rw [h]; rfl
theorem bt_zero {s : ByteArray} {b : UInt8} {t : Bs} (h : toL s = b :: t) : bt s 0 = (b.toNat : Int) := by
 have hl : 0 < s.size := by rw [← toL_len,h]; simp
 have := bt_nat hl
 rw [show ((0 : Nat) : Int) = 0 from rfl] at this
 rw [this]
 have h5 : (toL s)[0]? = some (s[0]'hl) := by
  unfold toL
  rw [Array.getElem?_toList]
  exact Array.getElem?_eq_getElem hl
 rw [h] at h5
 have e : b = s[0]'hl := by simpa using h5
 rw [e]
theorem isNum_cons {b : UInt8} {t : Bs} {d : Nat} (hd : t.length + 1 ≤ d) (ha : (b :: t).all digB = true) : isNumL (b :: t) d = (decide (b ≠ 48) || decide (t = [])) := by
 unfold isNumL
 rw [decide_eq_true (show 1 ≤ (b :: t).length by simp),decide_eq_true (show (b :: t).length ≤ d by simpa using hd),ha]
 simp only [Bool.true_and,List.head?_cons,ne_eq,Option.some.injEq,List.length_cons]
 congr 1
 cases t <;> simp
theorem isNumber_at (k : Nat) (s : ByteArray) (d : Nat) (hs : s.size ≤ 140737488355328) (S : List LV) (K : Bool × Unit → List LV → Option R) : G.action_isNumber.fn k (s,(d : Int),()) S K = K (isNumS s d,()) S := by
 unfold G.action_isNumber.fn isNumS
 dsimp only
 have el := toL_len s
 by_cases h1 : 1 ≤ s.size
 ·rw [ifB_pos (show (s.size : Int) ≥ 1 by omega)]
  by_cases h2 : s.size ≤ d
  ·obtain ⟨t,ht,htr⟩ := trim_dig (R := R) k s hs
   rw [ifB_pos (show (s.size : Int) ≤ (d : Int) by omega),htr]
   dsimp only
   rw [ht]
   cases ha : (toL s).all digB with
   | false =>
    have : isNumL (toL s) d = false := by unfold isNumL; rw [ha]; simp
    rw [this]; rfl
   | true =>
    rw [ifB_true]
    cases hb : toL s with
    | nil => rw [hb] at el; simp at el; omega
    | cons b t =>
     have e0 : idxStr s 0 = fun (K : Int → Option R) => K (bt s 0) := by
      funext K
      exact idxStr_nat (i := 0) (by omega) K
     rw [e0]
     dsimp only
     rw [bt_zero hb,isNum_cons (by rw [hb] at el; simp at el; omega) (by rw [← hb]; exact ha)]
     have e1 : ((b.toNat : Int) != 48) = decide (b ≠ 48) := by
      by_cases hq : b = 48
      ·subst hq; rfl
      ·have h9 : b.toNat ≠ 48 := fun e => hq (UInt8.toNat_inj.1 e)
       have h8 : ((b.toNat : Int) == 48) = false := by rw [beq_eq_false_iff_ne]; omega
       rw [decide_eq_true hq]
       show (!((b.toNat : Int) == 48)) = true
       rw [h8]; rfl
     rw [e1]
     by_cases h48 : b = 48
     ·subst h48
      simp only [ne_eq,not_true_eq_false,decide_false,Bool.false_or,ifB_false]
      congr 2
      rw [Bool.eq_iff_iff,strEq_iff,decide_eq_true_eq]
      constructor
      ·intro h
       have := congrArg toL h
       rw [hb] at this
       have h3 := congrArg List.tail this
       simpa [bs,toL] using h3
      ·intro h
       subst h
       exact toL_inj hb
     ·simp [h48]
  ·rw [ifB_neg (show ¬ (s.size : Int) ≤ (d : Int) by omega)]
   have : isNumL (toL s) d = false := by unfold isNumL; rw [decide_eq_false (show ¬ (toL s).length ≤ d by omega)]; simp
   rw [this]
 ·rw [ifB_neg (show ¬ (s.size : Int) ≥ 1 by omega)]
  have : isNumL (toL s) d = false := by unfold isNumL; rw [decide_eq_false (show ¬ 1 ≤ (toL s).length by omega)]; simp
  rw [this]
end
end Go.Lm
set_option maxRecDepth 100000
namespace Go.Lm
section
variable {R : Type}
theorem idx_str0 (a : ByteArray) (l : List ByteArray) (K : LV → Option R) : idxL ((a :: l).map LV.str) 0 K = K (.str a) := idxL_nat (xs := (a :: l).map LV.str) (i := 0) (by simp) K
theorem idx_str1 (a b : ByteArray) (l : List ByteArray) (K : LV → Option R) : idxL ((a :: b :: l).map LV.str) 1 K = K (.str b) := idxL_nat (xs := (a :: b :: l).map LV.str) (i := 1) (by simp) K
theorem asLeaf_str (a : ByteArray) (K : ByteArray → Option R) : asStr (leaf (.str a) 0) K = K a := rfl
def ow (e z : Nat) (l : List LV) : LV := match l with
 | [] => .nilsl
 | l => .own e z l
theorem at_of {S : List LV} {id t : Nat} {xs : List LV} (h : S.getD id .any = .obj t xs) (K : (List LV → LV) → List LV → Option R) : objAt S id K = K (.obj t) xs := by
 unfold objAt
 rw [h]
theorem lt_of {S : List LV} {id t : Nat} {xs : List LV} (h : S.getD id .any = .obj t xs) : id < S.length := by
 rcases Nat.lt_or_ge id S.length with h1 | h1
 ·exact h1
 ·rw [List.getD_eq_getElem?_getD,List.getElem?_eq_none h1] at h; cases h
theorem has_set {S : List LV} {id t : Nat} {xs : List LV} (h : S.getD id .any = .obj t xs) (v : LV) : (S.set id v).getD id .any = v := by
 have := lt_of h
 simp [List.getD_eq_getElem?_getD,this]
theorem other_set {S : List LV} {id id' : Nat} (h : id ≠ id') (v : LV) : (S.set id v).getD id' .any = S.getD id' .any := by
 simp only [List.getD_eq_getElem?_getD,List.getElem?_set_ne h]
end
end Go.Lm
set_option maxRecDepth 100000
namespace Go.Lm
section
variable {R : Type}
def allB (lo hi : Int) (s : ByteArray) : Bool := scan (fun i => cond (decide (lo ≤ bt s i) && decide (bt s i ≤ hi)) none (some false)) true s.size 0
theorem scan_cond {β : Type} (p : Nat → Bool) (a b : β) : ∀ d i,scan (fun j => cond (p j) none (some a)) b d i = cond (scan (fun j => cond (p j) none (some false)) true d i) b a
 | 0,_ => rfl
 | d + 1,i => by
  have ih := scan_cond p a b d (i + 1)
  simp only [scan]
  cases p i with
  | true => exact ih
  | false => rfl
theorem scan_first {α β : Type} (z : α) (p : α → Bool) (a b : β) : ∀ (l m : List α),scan (fun i => cond (p ((m ++ l).getD i z)) (some a) none) b l.length m.length = cond (l.any p) a b
 | [],m => rfl
 | x :: l,m => by
  have e : (m ++ x :: l).getD m.length z = x := by simp [List.getD_eq_getElem?_getD]
  have ih := scan_first z p a b l (m ++ [x])
  simp only [List.length_append,List.length_cons,List.length_nil,Nat.zero_add,List.append_assoc,List.cons_append,List.nil_append] at ih
  simp only [List.length_cons,scan,List.any_cons,e]
  cases p x with
  | true => rfl
  | false => exact ih
theorem scan_first0 {α β : Type} (z : α) (p : α → Bool) (a b : β) (l : List α) : scan (fun i => cond (p (l.getD i z)) (some a) none) b l.length 0 = cond (l.any p) a b := scan_first z p a b l []
def isWordS (s : ByteArray) : Bool := allB 33 126 s && (decide (1 ≤ s.size) && decide (s.size ≤ 300))
theorem prog_isWord {k : Nat} (hk : Many k) (s : ByteArray) (hs : s.size ≤ 140737488355328) (S : List LV) (K : Bool × Unit → List LV → Option R) : G.action_isWord.fn k (s,()) S K = K (isWordS s,()) S := by
 unfold Many at hk
 unfold G.action_isWord.fn isWordS allB
 dsimp only
 refine Eq.trans (rounds_scan0 (fun i => (s,(s.size : Int),(i : Int),())) S s.size k (fun i => cond (decide (33 ≤ bt s i) && decide (bt s i ≤ 126)) none (some (K (false,()) S))) (K (decide (1 ≤ s.size) && decide (s.size ≤ 300),()) S) (fun rec i hi => ?_) (fun rec => ?_) (by omega)) ?_
 ·unfold G.action_isWord.b0
  dsimp only
  rw [lt_nat,ifB_pos hi,idxStr_nat hi,idxStr_nat hi,wrap_succ (by omega)]
  by_cases h1 : bt s (i : Int) < 33
  ·have h2 : ¬ (33 ≤ bt s (i : Int)) := by omega
   simp [h1,h2]
  ·have h2 : 33 ≤ bt s (i : Int) := by omega
   by_cases h3 : bt s (i : Int) > 126
   ·have h4 : ¬ (bt s (i : Int) ≤ 126) := by omega
    simp [h1,h2,h3,h4]
   ·have h4 : bt s (i : Int) ≤ 126 := by omega
    simp [h1,h2,h3,h4]
 ·unfold G.action_isWord.b0
  dsimp only
  rw [lt_nat,ifB_neg (Nat.lt_irrefl _)]
  by_cases h1 : 1 ≤ s.size
  ·rw [ifB_pos (show (s.size : Int) ≥ 1 by omega),decide_eq_true h1,Bool.true_and]
   by_cases h2 : s.size ≤ 300
   ·rw [decide_eq_true h2,decide_eq_true (show (s.size : Int) ≤ 300 by omega)]
   ·rw [decide_eq_false h2,decide_eq_false (show ¬ (s.size : Int) ≤ 300 by omega)]
  ·rw [ifB_neg (show ¬ (s.size : Int) ≥ 1 by omega),decide_eq_false h1,Bool.false_and]
 ·rw [scan_cond]
  cases scan (fun j => cond (decide (33 ≤ bt s (j : Int)) && decide (bt s (j : Int) ≤ 126)) none (some false)) true s.size 0 <;> rfl
def badWords (c : List ByteArray) : Bool := c.any fun w => !(isWordS w)
theorem get_size {l : List ByteArray} {n : Nat} (h : ∀ w ∈ l,w.size ≤ n) (i : Nat) (hi : i < l.length) : (l.getD i (bs [])).size ≤ n := h _ (by rw [List.getD_eq_getElem?_getD,List.getElem?_eq_getElem hi]; exact List.getElem_mem hi)
theorem prog_words {k : Nat} (hk : Many k) (c : List ByteArray) (hc : c.length ≤ 140737488355328) (hs : ∀ w ∈ c,w.size ≤ 140737488355328) (S : List LV) (K : Bool × Unit → List LV → Option R) :
  G.slices_ContainsFunc_s_string_string_at_action_checkCommand_1.fn k (c.map .str,(),()) S K = K (badWords c,()) S := by
 have hk' := hk
 unfold Many at hk'
 unfold G.slices_ContainsFunc_s_string_string_at_action_checkCommand_1.fn G.slices_IndexFunc_s_string_string_at_action_checkCommand_1.fn
 dsimp only
 rw [List.length_map]
 have h := rounds_scan0 (b := G.slices_IndexFunc_s_string_string_at_action_checkCommand_1.b0 k (fun (_ : Unit) S => K (decide ((-1 : Int) ≥ 0),()) S) (fun (o5 : Int × Unit) S => K (decide (o5.1 ≥ 0),()) S)) (fun i => (c.map LV.str,(),(c.length : Int),(i : Int),())) S c.length k (fun i => cond (!(isWordS (c.getD i (bs [])))) (some (K (true,()) S)) none) (K (false,()) S) (fun rec i hi => ?_) (fun rec => ?_) (by omega)
 ·refine Eq.trans h ?_
  rw [scan_first0 (bs []) (fun w => !(isWordS w))]
  unfold badWords
  cases c.any fun w => !(isWordS w) <;> rfl
 ·unfold G.slices_IndexFunc_s_string_string_at_action_checkCommand_1.b0 G.action_checkCommand_1.fn
  dsimp only
  rw [lt_nat,ifB_pos hi,idxL_nat (by simpa using hi),map_str_get c i hi]
  simp only [asLeaf_str]
  rw [prog_isWord hk _ (get_size hs i hi),wrap_succ (by omega)]
  dsimp only
  have e : decide ((i : Int) ≥ 0) = true := decide_eq_true (by omega)
  cases isWordS (c.getD i (bs [])) with
  | true => rfl
  | false =>
   show K (decide ((i : Int) ≥ 0),()) S = K (true,()) S
   rw [e]
 ·unfold G.slices_IndexFunc_s_string_string_at_action_checkCommand_1.b0
  dsimp only
  rw [lt_nat,ifB_neg (Nat.lt_irrefl _)]
  rfl
def formS (w : ByteArray) : ByteArray := cond (strEq w (bs [106,111,105,110])) (bs [112,112,43]) (cond (strEq w (bs [115,111,114,116])) (bs [112,112]) (cond (strEq w (bs [99,111,117,110,116])) (bs [112,112]) (cond (strEq w (bs [101,120,112,97,110,100])) (bs [112,112]) (cond (strEq w (bs [109,97,107,101])) (bs [112,112]) (cond (strEq w (bs [100,105,103,101,115,116])) (bs [112,112]) (cond (strEq w (bs [108,105,115,116])) (bs [112,112]) (cond (strEq w (bs [102,105,114,115,116])) (bs [112,110,112]) (cond (strEq w (bs [99,104,97,110,103,101])) (bs [112,119,119,112]) (cond (strEq w (bs [112,105,99,107])) (bs [112,112,112,43]) (cond (strEq w (bs [118,97,114])) (bs [112,119]) (cond (strEq w (bs [116,101,108,108])) (bs [119,43]) (cond (strEq w (bs [110,101,101,100])) (bs [112]) (cond (strEq w (bs [115,97,109,101])) (bs [112,112]) (cond (strEq w (bs [102,97,105,108])) (bs [110]) (bs [])))))))))))))))
theorem prog_formOf (k : Nat) (w : ByteArray) (S : List LV) (K : ByteArray × Unit → List LV → Option R) : G.action_formOf.fn k (w,()) S K = K (formS w,()) S := by
 unfold G.action_formOf.fn G.action_formOf.q0 G.action_formOf.q1 G.action_formOf.q2 G.action_formOf.q3 G.action_formOf.q4 G.action_formOf.q5 G.action_formOf.q6 G.action_formOf.q7 formS
 dsimp only
 generalize strEq w (bs [106,111,105,110]) = b0
 generalize strEq w (bs [115,111,114,116]) = b1
 generalize strEq w (bs [99,111,117,110,116]) = b2
 generalize strEq w (bs [101,120,112,97,110,100]) = b3
 generalize strEq w (bs [109,97,107,101]) = b4
 generalize strEq w (bs [100,105,103,101,115,116]) = b5
 generalize strEq w (bs [108,105,115,116]) = b6
 generalize strEq w (bs [102,105,114,115,116]) = b7
 generalize strEq w (bs [99,104,97,110,103,101]) = b8
 generalize strEq w (bs [112,105,99,107]) = b9
 generalize strEq w (bs [118,97,114]) = b10
 generalize strEq w (bs [116,101,108,108]) = b11
 generalize strEq w (bs [110,101,101,100]) = b12
 generalize strEq w (bs [115,97,109,101]) = b13
 generalize strEq w (bs [102,97,105,108]) = b14
 cases b0 with
 | true => rfl
 | false =>
  cases b1 with
  | true => rfl
  | false =>
   cases b2 with
   | true => rfl
   | false =>
    cases b3 with
    | true => rfl
    | false =>
     cases b4 with
     | true => rfl
     | false =>
      cases b5 with
      | true => rfl
      | false =>
       cases b6 with
       | true => rfl
       | false =>
        cases b7 with
        | true => rfl
        | false =>
         cases b8 with
         | true => rfl
         | false =>
          cases b9 with
          | true => rfl
          | false =>
           cases b10 with
           | true => rfl
           | false =>
            cases b11 with
            | true => rfl
            | false =>
             cases b12 with
             | true => rfl
             | false =>
              cases b13 with
              | true => rfl
              | false =>
               cases b14 with
               | true => rfl
               | false =>
                rfl
end
end Go.Lm
set_option maxRecDepth 100000
namespace Go.Lm
section
variable {R : Type}
def hasPlus (f : ByteArray) : Bool := decide (1 ≤ f.size) && strEq (f.extract (f.size - 1) f.size) (bs [43])
def cutPlus (f : ByteArray) : ByteArray × Bool := cond (hasPlus f) (f.extract 0 (f.size - 1),true) (f,false)
theorem wrap_sub1 {n : Nat} (h : 1 ≤ n) (h2 : n ≤ 140737488355328) : IntKind.wrap .i64 ((n : Int) - 1) = ((n - 1 : Nat) : Int) := wrap_pred (by omega) (by omega)
theorem CutSuffix_at (k : Nat) (f : ByteArray) (hf : f.size ≤ 140737488355328) (S : List LV) (K : ByteArray × Bool × Unit → List LV → Option R) : G.strings_CutSuffix.fn k (f,bs [43],()) S K = K ((cutPlus f).1,(cutPlus f).2,()) S := by
 unfold G.strings_CutSuffix.fn G.internal_stringslite_CutSuffix.fn G.internal_stringslite_HasSuffix.fn cutPlus hasPlus
 have e1 : ((bs [43]).size : Int) = 1 := rfl
 dsimp only
 rw [e1]
 by_cases h1 : 1 ≤ f.size
 ·rw [ifB_pos (show (f.size : Int) ≥ 1 by omega),decide_eq_true h1,wrap_sub1 h1 hf]
  have e2 : ∀ K : ByteArray → Option R,slStr f ((f.size - 1 : Nat) : Int) (f.size : Int) K = K (f.extract (f.size - 1) f.size) := fun K => by
   unfold slStr
   rw [ifB_pos ⟨by omega,by omega,by omega⟩]; rfl
  have e3 : ∀ K : ByteArray → Option R,slStr f (0 : Int) ((f.size - 1 : Nat) : Int) K = K (f.extract 0 (f.size - 1)) := fun K => slStr_nat (by omega) K
  rw [e2,e3,Bool.true_and]
  cases strEq (f.extract (f.size - 1) f.size) (bs [43]) <;> rfl
 ·rw [ifB_neg (show ¬ (f.size : Int) ≥ 1 by omega),decide_eq_false h1]
  rfl
theorem formS_cases {P : ByteArray → Prop} (w : ByteArray) (h0 : P (bs [])) (h1 : P (bs [112,112,43])) (h2 : P (bs [112,112])) (h3 : P (bs [112,110,112])) (h4 : P (bs [112,119,119,112])) (h5 : P (bs [112,112,112,43])) (h6 : P (bs [112,119])) (h7 : P (bs [119,43])) (h8 : P (bs [112])) (h9 : P (bs [110])) : P (formS w) := by
 unfold formS
 cases strEq w (bs [106,111,105,110]) with
 | true => exact h1
 | false =>
 rw [cond_false]
 cases strEq w (bs [115,111,114,116]) with
 | true => exact h2
 | false =>
 rw [cond_false]
 cases strEq w (bs [99,111,117,110,116]) with
 | true => exact h2
 | false =>
 rw [cond_false]
 cases strEq w (bs [101,120,112,97,110,100]) with
 | true => exact h2
 | false =>
 rw [cond_false]
 cases strEq w (bs [109,97,107,101]) with
 | true => exact h2
 | false =>
 rw [cond_false]
 cases strEq w (bs [100,105,103,101,115,116]) with
 | true => exact h2
 | false =>
 rw [cond_false]
 cases strEq w (bs [108,105,115,116]) with
 | true => exact h2
 | false =>
 rw [cond_false]
 cases strEq w (bs [102,105,114,115,116]) with
 | true => exact h3
 | false =>
 rw [cond_false]
 cases strEq w (bs [99,104,97,110,103,101]) with
 | true => exact h4
 | false =>
 rw [cond_false]
 cases strEq w (bs [112,105,99,107]) with
 | true => exact h5
 | false =>
 rw [cond_false]
 cases strEq w (bs [118,97,114]) with
 | true => exact h6
 | false =>
 rw [cond_false]
 cases strEq w (bs [116,101,108,108]) with
 | true => exact h7
 | false =>
 rw [cond_false]
 cases strEq w (bs [110,101,101,100]) with
 | true => exact h8
 | false =>
 rw [cond_false]
 cases strEq w (bs [115,97,109,101]) with
 | true => exact h2
 | false =>
 rw [cond_false]
 cases strEq w (bs [102,97,105,108]) with
 | true => exact h9
 | false => exact h0
theorem formS_size (w : ByteArray) : (formS w).size ≤ 4 := formS_cases (P := fun f => f.size ≤ 4) w (by decide) (by decide) (by decide) (by decide) (by decide) (by decide) (by decide) (by decide) (by decide) (by decide)
theorem formS_sorts (w : ByteArray) : strEq (formS w) (bs []) = true ∨ 1 ≤ (cutPlus (formS w)).1.size :=
 formS_cases (P := fun f => strEq f (bs []) = true ∨ 1 ≤ (cutPlus f).1.size) w (by decide +kernel) (by decide +kernel) (by decide +kernel) (by decide +kernel) (by decide +kernel) (by decide +kernel) (by decide +kernel) (by decide +kernel) (by decide +kernel) (by decide +kernel)
theorem cutPlus_size (f : ByteArray) : (cutPlus f).1.size ≤ f.size := by
 unfold cutPlus
 cases hasPlus f with
 | false => exact Nat.le_refl _
 | true =>
  show (f.extract 0 (f.size - 1)).size ≤ f.size
  rw [ByteArray.size_extract]; omega
def fitsS (c : Int) (w : ByteArray) : Bool := cond (c == 112) (isPathS w) (cond (c == 110) (isNumS w 6) true)
def stepF (ws : List ByteArray) (sorts : ByteArray) (i : Nat) : Bool := fitsS (bt sorts ((min i (sorts.size - 1) : Nat) : Int)) (ws.getD i (bs []))
def formedL (ws : List ByteArray) (sorts : ByteArray) : Bool := scan (fun i => cond (stepF ws sorts i) none (some false)) true ws.length 0
def formedS (ws : List ByteArray) (f : ByteArray) : Bool := cond (decide (ws.length < (cutPlus f).1.size)) false (cond (decide (ws.length > (cutPlus f).1.size)) (cond (cutPlus f).2 (formedL ws (cutPlus f).1) false) (formedL ws (cutPlus f).1))
theorem minI_nat (i n : Nat) : minI (i : Int) (n : Int) = ((min i n : Nat) : Int) := by
 unfold minI
 split <;> omega
theorem sort_at {sorts : ByteArray} (h1 : 1 ≤ sorts.size) (h2 : sorts.size ≤ 140737488355328) (i : Nat) (K : Int → Option R) : idxStr sorts (minI (i : Int) (IntKind.wrap .i64 ((sorts.size : Int) - 1))) K = K (bt sorts ((min i (sorts.size - 1) : Nat) : Int)) := by
 rw [wrap_sub1 h1 h2,minI_nat,idxStr_nat (by omega)]
theorem prog_forms {k : Nat} (hk : Many k) (ws : List ByteArray) (hl : ws.length ≤ 140737488355328) (hw : ∀ w ∈ ws,w.size ≤ 140737488355328) (sorts : ByteArray) (h1 : 1 ≤ sorts.size) (h2 : sorts.size ≤ 140737488355328) (S : List LV) (J0 : Unit → List LV → Option R) (Jret : Bool × Unit → List LV → Option R) :
  rounds (G.action_hasForm.b0 k J0 Jret) k (sorts,ws.map .str,(ws.length : Int),(0 : Int),()) S = cond (formedL ws sorts) (J0 () S) (Jret (false,()) S) := by
 have hk' := hk
 unfold Many at hk'
 have h := rounds_scan0 (b := G.action_hasForm.b0 k J0 Jret) (fun i => (sorts,ws.map LV.str,(ws.length : Int),(i : Int),())) S ws.length k (fun i => cond (stepF ws sorts i) none (some (Jret (false,()) S))) (J0 () S) (fun rec i hi => ?_) (fun rec => ?_) (by omega)
 ·refine Eq.trans h ?_
  rw [scan_cond]; rfl
 ·unfold G.action_hasForm.b0 G.action_hasForm.q2 G.action_hasForm.q3 G.action_hasForm.q4 G.action_hasForm.q5 G.action_hasForm.q6 G.action_hasForm.q7
  dsimp only
  rw [lt_nat,ifB_pos hi,idxL_nat (by simpa using hi),map_str_get ws i hi,wrap_succ (by omega)]
  simp only [asLeaf_str,sort_at h1 h2]
  unfold stepF fitsS
  have hz := get_size hw i hi
  generalize ws.getD i (bs []) = w at hz
  generalize bt sorts ((min i (sorts.size - 1) : Nat) : Int) = c
  have e1 : ∀ K : Bool × Unit → List LV → Option R,G.action_isNumber.fn k (w,6,()) S K = K (isNumS w 6,()) S := fun K => isNumber_at k w 6 hz S K
  simp only [prog_IsPath hk,e1]
  cases c == 112 with
  | true => cases isPathS w <;> rfl
  | false =>
   cases c == 110 with
   | true => cases isNumS w 6 <;> rfl
   | false => rfl
 ·unfold G.action_hasForm.b0 G.action_hasForm.q2
  dsimp only
  rw [lt_nat,ifB_neg (Nat.lt_irrefl _)]
theorem prog_hasForm {k : Nat} (hk : Many k) (ws : List ByteArray) (hl : ws.length ≤ 140737488355328) (hw : ∀ w ∈ ws,w.size ≤ 140737488355328) (f : ByteArray) (h1 : 1 ≤ (cutPlus f).1.size) (h2 : f.size ≤ 140737488355328) (S : List LV) (K : Bool × Unit → List LV → Option R) :
  G.action_hasForm.fn k (ws.map .str,f,()) S K = K (formedS ws f,()) S := by
 unfold G.action_hasForm.fn G.action_hasForm.q1 G.action_hasForm.q0 formedS
 dsimp only
 have h3 := Nat.le_trans (cutPlus_size f) h2
 rw [CutSuffix_at k f h2]
 dsimp only
 rw [List.length_map,prog_forms hk ws hl hw _ h1 h3,lt_nat,gt_nat]
 cases decide (ws.length < (cutPlus f).1.size) with
 | true => rfl
 | false =>
  cases decide (ws.length > (cutPlus f).1.size) with
  | true =>
   cases (cutPlus f).2 with
   | true =>
    show cond _ _ _ = _
    cases formedL ws (cutPlus f).1 <;> rfl
   | false => rfl
  | false =>
   show cond _ _ _ = _
   cases formedL ws (cutPlus f).1 <;> rfl
theorem fail_len {w : ByteArray} {ws : List ByteArray} (h : strEq w (bs [102,97,105,108]) = true) (h2 : formedS ws (formS w) = true) : ∃ v vs,ws = v :: vs := by
 rw [strEq_iff] at h
 subst h
 have e1 : (cutPlus (formS (bs [102,97,105,108]))).1.size = 1 := by decide +kernel
 unfold formedS at h2
 rw [e1] at h2
 cases ws with
 | nil => exact absurd h2 (by decide)
 | cons v vs => exact ⟨v,vs,rfl⟩
def noFail (w : ByteArray) (ws : List ByteArray) : Bool := !(strEq w (bs [102,97,105,108]) && strEq (ws.getD 0 (bs [])) (bs [48]))
theorem tail_at (w : ByteArray) (ws : List ByteArray) (K : List LV → Option R) : slL ((w :: ws).map LV.str) 1 (((w :: ws).map LV.str).length : Int) K = K (ws.map .str) := by
 unfold slL
 rw [ifB_pos ⟨by omega,by simp; omega,by simp⟩]
 simp only [Int.toNat_natCast]
 rw [List.take_of_length_le (Nat.le_refl _)]
 rfl
def cmdS (c : List ByteArray) : Int := cond (decide (c.length = 0)) 9 (cond (decide (c.length > 50)) 2 (cond (badWords c) 3 (cond (strEq (formS (c.getD 0 (bs []))) (bs [])) 4 (cond (formedS c.tail (formS (c.getD 0 (bs []))) && noFail (c.getD 0 (bs [])) c.tail) 0 3))))
theorem prog_checkCommand {k : Nat} (hk : Many k) (c : List ByteArray) (hs : ∀ w ∈ c,w.size ≤ 140737488355328) (S : List LV) (K : Int × Unit → List LV → Option R) : G.action_checkCommand.fn k (c.map .str,()) S K = K (cmdS c,()) S := by
 unfold G.action_checkCommand.fn
 cases c with
 | nil => rfl
 | cons w ws =>
  unfold cmdS
  dsimp only
  rw [show ((((w :: ws).map LV.str).length : Int) == 0) = false by rw [beq_eq_false_iff_ne]; simp; omega,ifB_false,decide_eq_false (show ¬ (w :: ws).length = 0 by simp),cond_false]
  have hle : (((w :: ws).map LV.str).length : Int) = ((w :: ws).length : Int) := by rw [List.length_map]
  rw [show decide ((((w :: ws).map LV.str).length : Int) > 50) = decide ((w :: ws).length > 50) by rw [hle]; exact gt_nat _ 50]
  cases hl : decide ((w :: ws).length > 50) with
  | true => rfl
  | false =>
   have hlen : (w :: ws).length ≤ 50 := by have := of_decide_eq_false hl; omega
   rw [ifB_false,prog_words hk _ (by omega) hs]
   dsimp only
   cases badWords (w :: ws) with
   | true => rfl
   | false =>
    simp only [ifB_false,idx_str0,asLeaf_str,prog_formOf,List.getD_cons_zero,List.tail_cons,cond_false,tail_at]
    cases hf : strEq (formS w) (bs []) with
    | true => rfl
    | false =>
     have h1 : 1 ≤ (cutPlus (formS w)).1.size := by
      rcases formS_sorts w with h | h
      ·rw [hf] at h; cases h
      ·exact h
     have h2 := formS_size w
     simp only [ifB_false]
     rw [prog_hasForm hk ws (by simp only [List.length_cons] at hlen; omega) (fun x hx => hs x (by simp [hx])) _ h1 (by omega)]
     dsimp only
     cases hg : formedS ws (formS w) with
     | false => rfl
     | true =>
      unfold noFail
      cases hq : strEq w (bs [102,97,105,108]) with
      | false => rfl
      | true =>
       obtain ⟨v,vs,rfl⟩ := fail_len hq hg
       simp only [Bool.not_true,ifB_false,ifB_true,idx_str1,asLeaf_str,List.getD_cons_zero,Bool.true_and]
       cases strEq v (bs [48]) <;> rfl
end
end Go.Lm
