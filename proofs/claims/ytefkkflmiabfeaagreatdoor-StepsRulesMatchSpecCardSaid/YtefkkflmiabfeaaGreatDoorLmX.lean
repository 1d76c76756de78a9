/- The functions in their typed form, each with its proof. -/
import Derived.Test.YtefkkflmiabfeaaGreatDoorLmXT
import Derived.Test.YtefkkflmiabfeaaGreatDoorLmXa
import Derived.Test.YtefkkflmiabfeaaGreatDoorLmK
import Derived.Test.YtefkkflmiabfeaaGreatDoorLmK3
set_option linter.unusedSimpArgs false
set_option maxRecDepth 100000
set_option linter.unusedVariables false
noncomputable section
namespace Go.Lm
open Go.Proofs
variable {R : Type}
/-! ### 84: smithyard/action.CheckLooks -/
namespace G.action_CheckLooks
abbrev c0 : Mk := sL 3 (n2 (sI (sX [.str, .str, .bool] (n3 (sL 3 (sI (sI (n9 (sB (nX (nX (nX (n1 [])))))))))))))
abbrev c1 : Mk := sL 3 (n2 (sI (sX [.str, .str, .bool] (n3 (sL 3 (sI (sI (n9 (sB (nX (nX (nX (n1 [])))))))))))))
abbrev z0 : Mk := sL 3 (n7 (sL 3 (sI (sI (nX (nX (nX (nX (n1 [])))))))))
abbrev z1 : Mk := sL 3 (n2 (sI (sX [.str, .str, .bool] (n3 (sL 3 (sI (sI (n9 (sB (nX (nX (nX (n1 [])))))))))))))
abbrev e0 : Mk := nX (nX (nX (nX (nX (n2 [])))))
abbrev m0 : Mk := sL 3 (n7 (sL 3 (sI (sI (nX (nX (nX (nX (n1 [])))))))))
abbrev mr : Mk := n2 (sI (nX (nX (nX (nX (n9 []))))))
abbrev ps : Mk := sL 3 []
abbrev rs : Mk := sI []
def C (k : Nat) : List (Ent PG R) := [blob_IsPath.en k, blob_IsDigest.en k]
def q1 (k : Nat) (Jnrm : Kt R (LL × Int × (BA × BA × Bool × U1) × LL × Int × Int × Bool × U1))  (x : (LL × Int × (BA × BA × Bool × U1) × LL × Int × Int × Bool × U1)) (S : LL) : Option R :=
  ifB x.2.2.2.2.2.2.1 (Jnrm (x.1, x.2.1, (x.2.2.1.1, x.2.2.1.2.1, x.2.2.1.2.2.1, ()), x.2.2.2.1, x.2.2.2.2.1, x.2.2.2.2.2.1, x.2.2.2.2.2.2.1, ()) S) (ifB (strEq x.2.2.1.2.1 (bs [])) (Jnrm (x.1, x.2.1, (x.2.2.1.1, x.2.2.1.2.1, x.2.2.1.2.2.1, ()), x.2.2.2.1, x.2.2.2.2.1, x.2.2.2.2.2.1, x.2.2.1.2.2.1, ()) S) (Jnrm (x.1, x.2.1, (x.2.2.1.1, x.2.2.1.2.1, x.2.2.1.2.2.1, ()), x.2.2.2.1, x.2.2.2.2.1, x.2.2.2.2.2.1, false, ()) S))
def Q1 (k : Nat) : Pc PG R (sub (cd Tryz.f84) [tt,tt,ff,tt,ff,ff,tt,tt,ff,ff,tt,ff,tt,tt,ff,tt]) := mkEnd T_ok (C k) _ c1 z1 (.cond .auto .auto) ⟨tr, tr⟩ (fun x S K => q1 k (fun o S => K .nrm (Qm z1 o S))  x S) (fun x S K => by kernel_rfl)
def q0 (k : Nat) (Jnrm : Kt R (LL × LL × Int × Int × U1)) (Jret : Kt R (Int × U1)) (x : (LL × Int × (BA × BA × Bool × U1) × LL × Int × Int × Bool × U1)) (S : LL) : Option R :=
  ifB x.2.2.2.2.2.2.1 (Jret ((3 : Int), ()) S) (ifB (decide (x.2.1 > (0 : Int))) (idxL x.1 (IntKind.wrap .i64 (x.2.1 - (1 : Int))) fun v9 => asStr (leaf v9 0) fun s10 => ifB (strLt x.2.2.1.1 s10 || strEq x.2.2.1.1 s10) (Jret ((8 : Int), ()) S) (Jnrm (x.1, x.2.2.2.1, x.2.2.2.2.1, x.2.2.2.2.2.1, ()) S)) (Jnrm (x.1, x.2.2.2.1, x.2.2.2.2.1, x.2.2.2.2.2.1, ()) S))
def Q0 (k : Nat) : Pc PG R (sub (cd Tryz.f84) [tt,tt,ff,tt,ff,ff,tt,tt,ff,ff,tt,ff,tt,tt,tt]) := mkEnd T_ok (C k) _ c0 z0 (.cond (.seq .auto (.mask mr .auto)) (.seq (.drawn [] [0, 1, 2, 3, 4, 5, 6, 7, 8, 9, 10, 11, 12, 13]) (.cond (.seq .auto (.mask mr .auto)) .auto))) ⟨⟨tr, tr⟩, (drawn_an (by kernel_rfl)), ⟨tr, tr⟩, tr⟩ (fun x S K => q0 k (fun o S => K .nrm (Qm z0 o S)) (fun o S => K .ret (Qm mr o S)) x S) (fun x S K => by kernel_rfl)
def b0 (k : Nat) (J0 : Kt R (U1)) (Jret : Kt R (Int × U1)) (rec : Kt R (LL × LL × Int × Int × U1)) (x : (LL × LL × Int × Int × U1)) (S : LL) : Option R :=
  ifB (decide (x.2.2.2.1 < x.2.2.1)) (idxL x.2.1 x.2.2.2.1 fun v1 => mat 3 v1 fun c2 => asStr (c2.getD 0 .any) fun s3 => asStr (c2.getD 1 .any) fun s4 => asBool (c2.getD 2 .any) fun b5 => blob_IsPath.fn k (s3, ()) S fun r6 S => ifB (!r6.1) (Jret ((3 : Int), ()) S) (ifB (!(strEq s4 (bs []))) (blob_IsDigest.fn k (s4, ()) S fun r7 S => q1 k (fun o8 S => q0 k (fun o11 S => rec (o11.1, o11.2.1, o11.2.2.1, (IntKind.wrap .i64 (o11.2.2.2.1 + (1 : Int))), ()) S) (fun o12 S => Jret (o12.1, ()) S) (o8.1, o8.2.1, (o8.2.2.1.1, o8.2.2.1.2.1, o8.2.2.1.2.2.1, ()), o8.2.2.2.1, o8.2.2.2.2.1, o8.2.2.2.2.2.1, o8.2.2.2.2.2.2.1, ()) S) (x.1, x.2.2.2.1, (s3, s4, b5, ()), x.2.1, x.2.2.1, x.2.2.2.1, (!r7.1), ()) S) (q1 k (fun o13 S => q0 k (fun o14 S => rec (o14.1, o14.2.1, o14.2.2.1, (IntKind.wrap .i64 (o14.2.2.2.1 + (1 : Int))), ()) S) (fun o15 S => Jret (o15.1, ()) S) (o13.1, o13.2.1, (o13.2.2.1.1, o13.2.2.1.2.1, o13.2.2.1.2.2.1, ()), o13.2.2.2.1, o13.2.2.2.2.1, o13.2.2.2.2.2.1, o13.2.2.2.2.2.2.1, ()) S) (x.1, x.2.2.2.1, (s3, s4, b5, ()), x.2.1, x.2.2.1, x.2.2.2.1, false, ()) S))) (J0 (()) S)
def L0 (k : Nat) : Pc PG R (.loop (sub (cd Tryz.f84) [tt,tt,ff,tt,ff,ff])) := mkLoop T_ok (C k) _ m0 k (.seq .auto (.seq (.cond .auto (.mask e0 .auto)) (.seq (.block (.seq .auto (.block (.seq .auto (.cond (.seq .auto (.mask mr .auto)) (.seq (.seq .auto (.piece (Q1 k).h)) (.piece (Q0 k).h))))))) .auto))) ⟨tr, ⟨tr, tr⟩, ⟨tr, tr, ⟨tr, tr⟩, ⟨tr, (Q1 k).ok⟩, (Q0 k).ok⟩, tr⟩ (fun K => b0 k (fun o S => K (.ext 0) (Qm e0 o S)) (fun o S => K .ret (Qm mr o S))) (fun K rec x S => by kernel_rfl)
def fn (k : Nat) (x : (LL × U1)) (S : LL) (K : Kt R (Int × U1)) : Option R :=
  ifB (decide ((x.1.length : Int) > (4000 : Int))) (K ((2 : Int), ()) S) (rounds (b0 k (fun o16 S => K ((0 : Int), ()) S) (fun o17 S => K (o17.1, ()) S)) k (x.1, x.1, (x.1.length : Int), (0 : Int), ()) S)
def en (k : Nat) : Ent PG R := mkFn T_ok Tryz.func84 ps rs (C k) (.seq .auto (.seq (.seq .auto (.cond (.seq .auto (.mask mr .auto)) .auto)) (.seq (.seq .auto (.block (.piece (L0 k).h))) (.seq .auto (.mask mr .auto))))) ⟨tr, ⟨tr, ⟨tr, tr⟩, tr⟩, ⟨tr, (L0 k).ok⟩, tr, tr⟩ (fn k) (by kernel_rfl) (by kernel_rfl) (fun x S K => by kernel_rfl)
end G.action_CheckLooks
/-! ### 111: smithyard/action.CheckResult$1 -/
namespace G.action_CheckResult_1
abbrev mr : Mk := n2 (sB (nX []))
abbrev ps : Mk := sh (.lf (.int .i32)) []
abbrev rs : Mk := sB []
def C (k : Nat) : List (Ent PG R) := []
def fn (k : Nat) (x : (Int × U1)) (S : LL) (K : Kt R (Bool × U1)) : Option R :=
  ifB (x.1 != (10 : Int)) (ifB (decide (x.1 < (32 : Int))) (K (true, ()) S) (K ((decide (x.1 > (126 : Int))), ()) S)) (K (false, ()) S)
def en (k : Nat) : Ent PG R := mkFn T_ok Tryz.func111 ps rs (C k) (.seq .auto (.seq .auto (.mask mr .auto))) ⟨tr, tr, tr⟩ (fn k) (by kernel_rfl) (by kernel_rfl) (fun x S K => by kernel_rfl)
end G.action_CheckResult_1
/-! ### 201: strings.indexFunc at smithyard/action.CheckResult$1 -/
def H.indexFunc_at_action_CheckResult_1.fn (k : Nat) (x : ByteArray × Unit × Bool × Unit) (S : List LV) (K : Int × Unit → List LV → Option R) : Option R := H.indexFunc.fn (G.action_CheckResult_1.en k).h 111 x S K
def H.indexFunc_at_action_CheckResult_1.h (k : Nat) : Hd R := hT (H.indexFunc.ps 111) fun x S K => H.indexFunc_at_action_CheckResult_1.fn k x S fun r S => K (resE H.indexFunc.rs r) S
theorem H.indexFunc_at_action_CheckResult_1.ok (k : Nat) : HSound Tryz.prog 201 (H.indexFunc_at_action_CheckResult_1.h (R := R) k) := H.indexFunc.ok (G.action_CheckResult_1.en k).ok (enters_ok Tryz.func111 (by kernel_rfl) (by kernel_rfl))
/-! ### 168: strings.IndexFunc -/
namespace G.strings_IndexFunc_at_action_CheckResult_1
abbrev mr : Mk := n4 (sI (n3 []))
abbrev ps : Mk := sS (sh (.fn 111 []) [])
abbrev rs : Mk := sI []
def C (k : Nat) : List (Ent PG R) := [⟨201, H.indexFunc_at_action_CheckResult_1.h k, H.indexFunc_at_action_CheckResult_1.ok k⟩]
def fn (k : Nat) (x : (BA × (U1) × U1)) (S : LL) (K : Kt R (Int × U1)) : Option R :=
  H.indexFunc_at_action_CheckResult_1.fn k (x.1, (()), true, ()) S fun r1 S => K (r1.1, ()) S
def en (k : Nat) : Ent PG R := mkFn T_ok Tryz.func168 ps rs (C k) (.seq .auto (.seq .auto (.mask mr .auto))) ⟨tr, tr, tr⟩ (fn k) (by kernel_rfl) (by kernel_rfl) (fun x S K => by kernel_rfl)
end G.strings_IndexFunc_at_action_CheckResult_1
/-! ### 110: strings.ContainsFunc -/
namespace G.strings_ContainsFunc_at_action_CheckResult_1
abbrev mr : Mk := n4 (sB (n4 []))
abbrev ps : Mk := sS (sh (.fn 111 []) [])
abbrev rs : Mk := sB []
def C (k : Nat) : List (Ent PG R) := [strings_IndexFunc_at_action_CheckResult_1.en k]
def fn (k : Nat) (x : (BA × (U1) × U1)) (S : LL) (K : Kt R (Bool × U1)) : Option R :=
  strings_IndexFunc_at_action_CheckResult_1.fn k (x.1, (()), ()) S fun r1 S => K ((decide (r1.1 ≥ (0 : Int))), ()) S
def en (k : Nat) : Ent PG R := mkFn T_ok Tryz.func110 ps rs (C k) (.seq .auto (.seq .auto (.mask mr .auto))) ⟨tr, tr, tr⟩ (fn k) (by kernel_rfl) (by kernel_rfl) (fun x S K => by kernel_rfl)
end G.strings_ContainsFunc_at_action_CheckResult_1
/-! ### 112: strings.HasSuffix -/
namespace G.strings_HasSuffix
abbrev mr : Mk := n4 (sB (n3 []))
abbrev ps : Mk := sS (sS [])
abbrev rs : Mk := sB []
def C (k : Nat) : List (Ent PG R) := [internal_stringslite_HasSuffix.en k]
def fn (k : Nat) (x : (BA × BA × U1)) (S : LL) (K : Kt R (Bool × U1)) : Option R :=
  internal_stringslite_HasSuffix.fn k (x.1, x.2.1, ()) S fun r1 S => K (r1.1, ()) S
def en (k : Nat) : Ent PG R := mkFn T_ok Tryz.func112 ps rs (C k) (.seq .auto (.seq .auto (.mask mr .auto))) ⟨tr, tr, tr⟩ (fn k) (by kernel_rfl) (by kernel_rfl) (fun x S K => by kernel_rfl)
end G.strings_HasSuffix
/-! ### 170: smithyard/blob.clashes -/
namespace G.blob_clashes
abbrev e0 : Mk := nX (nX (n3 []))
abbrev m0 : Mk := sh (.lf (.map)) (sS (n5 (sI (sI (nX (n4 []))))))
abbrev mr : Mk := n4 (sB (nX (n8 [])))
abbrev ps : Mk := sh (.lf (.map)) (sS [])
abbrev rs : Mk := sB []
def C (k : Nat) : List (Ent PG R) := []
def b0 (k : Nat) (J0 : Kt R (U1)) (Jret : Kt R (Bool × U1)) (rec : Kt R (Nat × BA × Int × Int × U1)) (x : (Nat × BA × Int × Int × U1)) (S : LL) : Option R :=
  ifB (decide (x.2.2.2.1 < x.2.2.1)) (idxStr x.2.1 x.2.2.2.1 fun c1 => ifB (c1 == (47 : Int)) (slStr x.2.1 (0 : Int) x.2.2.2.1 fun s2 => mpAt S x.1 .str fun m3 => asBool ((mapGet m3 (.str s2)).getD (.bool false)) fun b4 => ifB b4 (Jret (true, ()) S) (rec (x.1, x.2.1, x.2.2.1, (IntKind.wrap .i64 (x.2.2.2.1 + (1 : Int))), ()) S)) (rec (x.1, x.2.1, x.2.2.1, (IntKind.wrap .i64 (x.2.2.2.1 + (1 : Int))), ()) S)) (J0 (()) S)
def L0 (k : Nat) : Pc PG R (.loop (sub (cd Tryz.f170) [tt,ff,tt,ff,ff])) := mkLoop T_ok (C k) _ m0 k (.seq .auto (.seq (.cond .auto (.mask e0 .auto)) (.seq (.block (.seq .auto (.seq .auto (.cond (.seq .auto (.mask mr .auto)) .auto)))) .auto))) ⟨tr, ⟨tr, tr⟩, ⟨tr, tr, ⟨tr, tr⟩, tr⟩, tr⟩ (fun K => b0 k (fun o S => K (.ext 0) (Qm e0 o S)) (fun o S => K .ret (Qm mr o S))) (fun K rec x S => by kernel_rfl)
def fn (k : Nat) (x : (Nat × BA × U1)) (S : LL) (K : Kt R (Bool × U1)) : Option R :=
  rounds (b0 k (fun o5 S => K (false, ()) S) (fun o6 S => K (o6.1, ()) S)) k (x.1, x.2.1, (x.2.1.size : Int), (0 : Int), ()) S
def en (k : Nat) : Ent PG R := mkFn T_ok Tryz.func170 ps rs (C k) (.seq .auto (.seq (.seq .auto (.block (.piece (L0 k).h))) (.seq .auto (.mask mr .auto)))) ⟨tr, ⟨tr, (L0 k).ok⟩, tr, tr⟩ (fn k) (by kernel_rfl) (by kernel_rfl) (fun x S K => by kernel_rfl)
end G.blob_clashes
/-! ### 113: smithyard/blob.CheckFiles -/
namespace G.blob_CheckFiles
abbrev c0 : Mk := sL 3 (n2 (sI (sh (.lf (.map)) (n1 (sX [.str, .bool, .sl 1] (n6 (sL 3 (sI (sI (nX (nX (nX (nX (nX []))))))))))))))
abbrev c1 : Mk := sL 3 (n2 (sI (sh (.lf (.map)) (n1 (sX [.str, .bool, .sl 1] (n6 (sL 3 (sI (sI (nX (nX (nX (nX (nX []))))))))))))))
abbrev z0 : Mk := sL 3 (n2 (sI (sh (.lf (.map)) (n8 (sL 3 (sI (sI (nX (nX (nX (nX (nX []))))))))))))
abbrev z1 : Mk := sL 3 (n2 (sI (sh (.lf (.map)) (n8 (sL 3 (sI (sI (nX (nX (nX (nX (nX []))))))))))))
abbrev e0 : Mk := sL 3 (n2 (sI (sh (.lf (.map)) (nX (nX (nX (nX (nX (nX (n1 []))))))))))
abbrev e3 : Mk := n3 (sI (nX (nX (nX (nX (nX (nX (n2 []))))))))
abbrev m0 : Mk := sL 3 (n2 (sI (sh (.lf (.map)) (n8 (sL 3 (sI (sI (nX (nX (nX (nX (nX []))))))))))))
abbrev m1 : Mk := n3 (sI (sh (.lf (.map)) (nX (nX (nX (nX (n8 (sL 3 (sI (sI (nX [])))))))))))
abbrev mr : Mk := n2 (sI (nX (nX (nX (nX (nX (nX (n3 []))))))))
abbrev ps : Mk := sL 3 []
abbrev rs : Mk := sI []
def C (k : Nat) : List (Ent PG R) := [blob_IsPath.en k, blob_clashes.en k]
def q1 (k : Nat) (Jnrm : Kt R (LL × Int × Nat × LL × Int × Int × U1))  (x : (LL × Int × Nat × (BA × Bool × LL × U1) × LL × Int × Int × U1)) (S : LL) : Option R :=
  mpAt S x.2.2.1 .str fun m10 => setS (S.set x.2.2.1 (.mp .str (mapPut m10 (.str x.2.2.2.1.1) (.bool true)))) fun S => Jnrm (x.1, x.2.1, x.2.2.1, x.2.2.2.2.1, x.2.2.2.2.2.1, x.2.2.2.2.2.2.1, ()) S
def Q1 (k : Nat) : Pc PG R (sub (cd Tryz.f113) [tt,tt,tt,tt,ff,tt,ff,ff,tt,tt,ff,ff,tt,tt,tt]) := mkEnd T_ok (C k) _ c1 z1 (.auto) tr (fun x S K => q1 k (fun o S => K .nrm (Qm z1 o S))  x S) (fun x S K => by kernel_rfl)
def q0 (k : Nat) (Jnrm : Kt R (LL × Int × Nat × LL × Int × Int × U1))  (x : (LL × Int × Nat × (BA × Bool × LL × U1) × LL × Int × Int × U1)) (S : LL) : Option R :=
  q1 k (fun o11 S => Jnrm (o11.1, o11.2.1, o11.2.2.1, o11.2.2.2.1, o11.2.2.2.2.1, o11.2.2.2.2.2.1, ()) S) (x.1, (IntKind.wrap .i64 (x.2.1 + (x.2.2.2.1.2.2.1.length : Int))), x.2.2.1, (x.2.2.2.1.1, x.2.2.2.1.2.1, x.2.2.2.1.2.2.1, ()), x.2.2.2.2.1, x.2.2.2.2.2.1, x.2.2.2.2.2.2.1, ()) S
def Q0 (k : Nat) : Pc PG R (sub (cd Tryz.f113) [tt,tt,tt,tt,ff,tt,ff,ff,tt,tt,ff,ff,tt,tt]) := mkEnd T_ok (C k) _ c0 z0 (.seq .auto (.piece (Q1 k).h)) ⟨tr, (Q1 k).ok⟩ (fun x S K => q0 k (fun o S => K .nrm (Qm z0 o S))  x S) (fun x S K => by kernel_rfl)
def b1 (k : Nat) (J3 : Kt R (Int × U1)) (Jret : Kt R (Int × U1)) (rec : Kt R (Int × Nat × LL × Int × Int × U1)) (x : (Int × Nat × LL × Int × Int × U1)) (S : LL) : Option R :=
  ifB (decide (x.2.2.2.2.1 < x.2.2.2.1)) (idxL x.2.2.1 x.2.2.2.2.1 fun v15 => mat 3 v15 fun c16 => asStr (c16.getD 0 .any) fun s17 => asBool (c16.getD 1 .any) fun b18 => asSl 1 (c16.getD 2 .any) fun l19 => blob_clashes.fn k (x.2.1, s17, ()) S fun r20 S => ifB r20.1 (Jret ((12 : Int), ()) S) (rec (x.1, x.2.1, x.2.2.1, x.2.2.2.1, (IntKind.wrap .i64 (x.2.2.2.2.1 + (1 : Int))), ()) S)) (J3 (x.1, ()) S)
def L1 (k : Nat) : Pc PG R (.loop (sub (cd Tryz.f113) [tt,tt,tt,tt,tt,ff,tt,ff,ff])) := mkLoop T_ok (C k) _ m1 k (.seq .auto (.seq (.cond .auto (.mask e3 .auto)) (.seq (.block (.seq .auto (.seq .auto (.cond (.seq .auto (.mask mr .auto)) .auto)))) .auto))) ⟨tr, ⟨tr, tr⟩, ⟨tr, tr, ⟨tr, tr⟩, tr⟩, tr⟩ (fun K => b1 k (fun o S => K (.ext 3) (Qm e3 o S)) (fun o S => K .ret (Qm mr o S))) (fun K rec x S => by kernel_rfl)
def b0 (k : Nat) (J0 : Kt R (LL × Int × Nat × U1)) (Jret : Kt R (Int × U1)) (rec : Kt R (LL × Int × Nat × LL × Int × Int × U1)) (x : (LL × Int × Nat × LL × Int × Int × U1)) (S : LL) : Option R :=
  ifB (decide (x.2.2.2.2.2.1 < x.2.2.2.2.1)) (idxL x.2.2.2.1 x.2.2.2.2.2.1 fun v2 => mat 3 v2 fun c3 => asStr (c3.getD 0 .any) fun s4 => asBool (c3.getD 1 .any) fun b5 => asSl 1 (c3.getD 2 .any) fun l6 => blob_IsPath.fn k (s4, ()) S fun r7 S => ifB (!r7.1) (Jret ((3 : Int), ()) S) (ifB (decide ((l6.length : Int) > (100000 : Int))) (Jret ((2 : Int), ()) S) (ifB (decide (x.2.2.2.2.2.1 > (0 : Int))) (idxL x.1 (IntKind.wrap .i64 (x.2.2.2.2.2.1 - (1 : Int))) fun v8 => asStr (leaf v8 0) fun s9 => ifB (strLt s4 s9 || strEq s4 s9) (Jret ((8 : Int), ()) S) (q0 k (fun o12 S => rec (o12.1, o12.2.1, o12.2.2.1, o12.2.2.2.1, o12.2.2.2.2.1, (IntKind.wrap .i64 (o12.2.2.2.2.2.1 + (1 : Int))), ()) S) (x.1, x.2.1, x.2.2.1, (s4, b5, l6, ()), x.2.2.2.1, x.2.2.2.2.1, x.2.2.2.2.2.1, ()) S)) (q0 k (fun o13 S => rec (o13.1, o13.2.1, o13.2.2.1, o13.2.2.2.1, o13.2.2.2.2.1, (IntKind.wrap .i64 (o13.2.2.2.2.2.1 + (1 : Int))), ()) S) (x.1, x.2.1, x.2.2.1, (s4, b5, l6, ()), x.2.2.2.1, x.2.2.2.2.1, x.2.2.2.2.2.1, ()) S)))) (J0 (x.1, x.2.1, x.2.2.1, ()) S)
def L0 (k : Nat) : Pc PG R (.loop (sub (cd Tryz.f113) [tt,tt,tt,tt,ff,tt,ff,ff])) := mkLoop T_ok (C k) _ m0 k (.seq .auto (.seq (.cond .auto (.mask e0 .auto)) (.seq (.block (.seq .auto (.seq (.block (.seq .auto (.cond (.seq .auto (.mask mr .auto)) (.seq .auto (.cond (.seq .auto (.mask mr .auto)) (.seq (.drawn [] [0, 1, 2, 3, 4, 5, 6, 7, 8, 9, 10, 11, 12, 13]) (.cond (.seq .auto (.mask mr .auto)) .auto))))))) (.piece (Q0 k).h)))) .auto))) ⟨tr, ⟨tr, tr⟩, ⟨tr, ⟨tr, ⟨tr, tr⟩, tr, ⟨tr, tr⟩, (drawn_an (by kernel_rfl)), ⟨tr, tr⟩, tr⟩, (Q0 k).ok⟩, tr⟩ (fun K => b0 k (fun o S => K (.ext 0) (Qm e0 o S)) (fun o S => K .ret (Qm mr o S))) (fun K rec x S => by kernel_rfl)
def fn0 (k : Nat) (x : (LL × U1)) (S : LL) (K : Kt R (Int × U1)) : Option R :=
  ifB (decide ((x.1.length : Int) > (1000 : Int))) (K ((2 : Int), ()) S) (newObj S (.mp .str []) fun i1 S => rounds (b0 k (fun o14 S => rounds (b1 k (fun o21 S => ifB (decide (o21.1 > (2000000 : Int))) (K ((2 : Int), ()) S) (K ((0 : Int), ()) S)) (fun o22 S => K (o22.1, ()) S)) k (o14.2.1, o14.2.2.1, o14.1, (o14.1.length : Int), (0 : Int), ()) S) (fun o23 S => K (o23.1, ()) S)) k (x.1, (0 : Int), i1, x.1, (x.1.length : Int), (0 : Int), ()) S)
def en0 (k : Nat) : Ent PG R := mkFn T_ok Tryz.func113 ps rs (C k) (.seq .auto (.seq (.seq .auto (.cond (.seq .auto (.mask mr .auto)) .auto)) (.seq .auto (.seq .auto (.seq (.seq .auto (.block (.piece (L0 k).h))) (.seq (.seq .auto (.block (.piece (L1 k).h))) (.seq (.seq .auto (.cond (.seq .auto (.mask mr .auto)) .auto)) (.seq .auto (.mask mr .auto))))))))) ⟨tr, ⟨tr, ⟨tr, tr⟩, tr⟩, tr, tr, ⟨tr, (L0 k).ok⟩, ⟨tr, (L1 k).ok⟩, ⟨tr, ⟨tr, tr⟩, tr⟩, tr, tr⟩ (fn0 k) (by kernel_rfl) (by kernel_rfl) (fun x S K => by kernel_rfl)
def fn (k : Nat) (x : (LL × U1)) (S : LL) (K : Kt R (Int × U1)) : Option R := popK rs 6 S (fn0 k x S fun r S => some (resE rs r, S)) K
def en (k : Nat) : Ent PG R := mkPop (rs := rs) (en0 k).ok
end G.blob_CheckFiles
/-! ### 85: smithyard/action.CheckResult -/
namespace G.action_CheckResult
abbrev c0 : Mk := n1 (sX [jI, .str, .sl 3, .sl 3, jI] (n2 (sB (nX (nX (nX (nX (nX (n6 [])))))))))
abbrev c1 : Mk := n1 (sX [jI, .str, .sl 3, .sl 3, jI] (nX (nX (nX (nX (nX (n9 [])))))))
abbrev c2 : Mk := n1 (sX [jI, .str, .sl 3, .sl 3, jI] (nX (nX (nX (nX (nX (n9 [])))))))
abbrev c3 : Mk := n1 (sX [jI, .str, .sl 3, .sl 3, jI] (n1 (sI (nX (nX (nX (nX (nX (n7 [])))))))))
abbrev c4 : Mk := n1 (sX [jI, .str, .sl 3, .sl 3, jI] (nX (nX (nX (nX (nX (n9 [])))))))
abbrev z0 : Mk := n1 (sX [jI, .str, .sl 3, .sl 3, jI] (nX (nX (nX (nX (nX (n9 [])))))))
abbrev z3 : Mk := n1 (sX [jI, .str, .sl 3, .sl 3, jI] (nX (nX (nX (nX (nX (n9 [])))))))
abbrev mr : Mk := n2 (sI (nX (nX (nX (nX (nX (n8 [])))))))
abbrev ps : Mk := sA [jI, .str, .sl 3, .sl 3, jI] []
abbrev rs : Mk := sI []
def C (k : Nat) : List (Ent PG R) := [action_CheckLooks.en k, strings_ContainsFunc_at_action_CheckResult_1.en k, strings_HasSuffix.en k, blob_CheckFiles.en k]
def q0 (k : Nat) (Jnrm : Kt R ((Int × BA × LL × LL × Int × U1) × U1)) (Jret : Kt R (Int × U1)) (x : ((Int × BA × LL × LL × Int × U1) × Bool × U1)) (S : LL) : Option R :=
  ifB x.2.1 (Jret ((1 : Int), ()) S) (ifB (decide ((x.1.2.1.size : Int) > (100000 : Int))) (Jret ((2 : Int), ()) S) (strings_ContainsFunc_at_action_CheckResult_1.fn k (x.1.2.1, (()), ()) S fun r1 S => ifB r1.1 (Jret ((3 : Int), ()) S) (ifB (!(strEq x.1.2.1 (bs []))) (strings_HasSuffix.fn k (x.1.2.1, (bs [10]), ()) S fun r2 S => ifB (!r2.1) (Jret ((3 : Int), ()) S) (Jnrm ((x.1.1, x.1.2.1, x.1.2.2.1, x.1.2.2.2.1, x.1.2.2.2.2.1, ()), ()) S)) (Jnrm ((x.1.1, x.1.2.1, x.1.2.2.1, x.1.2.2.2.1, x.1.2.2.2.2.1, ()), ()) S))))
def Q0 (k : Nat) : Pc PG R (sub (cd Tryz.f85) [tt,ff,ff,tt]) := mkEnd T_ok (C k) _ c0 z0 (.cond (.seq .auto (.mask mr .auto)) (.seq .auto (.cond (.seq .auto (.mask mr .auto)) (.seq .auto (.cond (.seq .auto (.mask mr .auto)) .auto))))) ⟨⟨tr, tr⟩, tr, ⟨tr, tr⟩, tr, ⟨tr, tr⟩, tr⟩ (fun x S K => q0 k (fun o S => K .nrm (Qm z0 o S)) (fun o S => K .ret (Qm mr o S)) x S) (fun x S K => by kernel_rfl)
def q1 (k : Nat) (Jret : Kt R (Int × U1)) (x : ((Int × BA × LL × LL × Int × U1) × U1)) (S : LL) : Option R :=
  action_CheckLooks.fn k (x.1.2.2.2.1, ()) S fun r6 S => Jret (r6.1, ()) S
def Q1 (k : Nat) : Pc PG R (sub (cd Tryz.f85) [tt,tt,tt,tt]) := mkCut T_ok (C k) _ c1 (.seq .auto (.mask mr .auto)) ⟨tr, tr⟩ (fun x S K => q1 k (fun o S => K .ret (Qm mr o S)) x S) (fun x S K => by kernel_rfl)
def q3 (k : Nat) (Jnrm : Kt R ((Int × BA × LL × LL × Int × U1) × U1)) (Jret : Kt R (Int × U1)) (x : ((Int × BA × LL × LL × Int × U1) × Int × U1)) (S : LL) : Option R :=
  ifB (x.2.1 != (0 : Int)) (Jret (x.2.1, ()) S) (Jnrm ((x.1.1, x.1.2.1, x.1.2.2.1, x.1.2.2.2.1, x.1.2.2.2.2.1, ()), ()) S)
def Q3 (k : Nat) : Pc PG R (sub (cd Tryz.f85) [tt,tt,ff,tt]) := mkEnd T_ok (C k) _ c3 z3 (.seq .auto (.cond (.seq .auto (.mask mr .auto)) .auto)) ⟨tr, ⟨tr, tr⟩, tr⟩ (fun x S K => q3 k (fun o S => K .nrm (Qm z3 o S)) (fun o S => K .ret (Qm mr o S)) x S) (fun x S K => by kernel_rfl)
def q4 (k : Nat) (Jret : Kt R (Int × U1)) (x : ((Int × BA × LL × LL × Int × U1) × U1)) (S : LL) : Option R :=
  ifB (decide ((x.1.2.2.1.length : Int) > (0 : Int))) (ifB (x.1.1 != (0 : Int)) (Jret ((3 : Int), ()) S) (q1 k (fun o7 S => Jret (o7.1, ()) S) ((x.1.1, x.1.2.1, x.1.2.2.1, x.1.2.2.2.1, x.1.2.2.2.2.1, ()), ()) S)) (q1 k (fun o8 S => Jret (o8.1, ()) S) ((x.1.1, x.1.2.1, x.1.2.2.1, x.1.2.2.2.1, x.1.2.2.2.2.1, ()), ()) S)
def Q4 (k : Nat) : Pc PG R (sub (cd Tryz.f85) [tt,tt,tt]) := mkCut T_ok (C k) _ c4 (.seq (.seq .auto (.cond (.seq .auto (.mask mr .auto)) .auto)) (.piece (Q1 k).h)) ⟨⟨tr, ⟨tr, tr⟩, tr⟩, (Q1 k).ok⟩ (fun x S K => q4 k (fun o S => K .ret (Qm mr o S)) x S) (fun x S K => by kernel_rfl)
def q2 (k : Nat) (Jret : Kt R (Int × U1)) (x : ((Int × BA × LL × LL × Int × U1) × U1)) (S : LL) : Option R :=
  blob_CheckFiles.fn k (x.1.2.2.1, ()) S fun r4 S => q3 k (fun o5 S => q4 k (fun o9 S => Jret (o9.1, ()) S) ((o5.1.1, o5.1.2.1, o5.1.2.2.1, o5.1.2.2.2.1, o5.1.2.2.2.2.1, ()), ()) S) (fun o10 S => Jret (o10.1, ()) S) ((x.1.1, x.1.2.1, x.1.2.2.1, x.1.2.2.2.1, x.1.2.2.2.2.1, ()), r4.1, ()) S
def Q2 (k : Nat) : Pc PG R (sub (cd Tryz.f85) [tt,tt]) := mkCut T_ok (C k) _ c2 (.seq (.seq .auto (.piece (Q3 k).h)) (.piece (Q4 k).h)) ⟨⟨tr, (Q3 k).ok⟩, (Q4 k).ok⟩ (fun x S K => q2 k (fun o S => K .ret (Qm mr o S)) x S) (fun x S K => by kernel_rfl)
def fn (k : Nat) (x : ((Int × BA × LL × LL × Int × U1) × U1)) (S : LL) (K : Kt R (Int × U1)) : Option R :=
  ifB (decide (x.1.1 < (0 : Int))) (q0 k (fun o3 S => q2 k (fun o11 S => K (o11.1, ()) S) ((o3.1.1, o3.1.2.1, o3.1.2.2.1, o3.1.2.2.2.1, o3.1.2.2.2.2.1, ()), ()) S) (fun o12 S => K (o12.1, ()) S) ((x.1.1, x.1.2.1, x.1.2.2.1, x.1.2.2.2.1, x.1.2.2.2.2.1, ()), true, ()) S) (ifB (decide (x.1.1 > (999999 : Int))) (q0 k (fun o13 S => q2 k (fun o14 S => K (o14.1, ()) S) ((o13.1.1, o13.1.2.1, o13.1.2.2.1, o13.1.2.2.2.1, o13.1.2.2.2.2.1, ()), ()) S) (fun o15 S => K (o15.1, ()) S) ((x.1.1, x.1.2.1, x.1.2.2.1, x.1.2.2.2.1, x.1.2.2.2.2.1, ()), true, ()) S) (ifB (decide (x.1.2.2.2.2.1 < (0 : Int))) (q0 k (fun o16 S => q2 k (fun o17 S => K (o17.1, ()) S) ((o16.1.1, o16.1.2.1, o16.1.2.2.1, o16.1.2.2.2.1, o16.1.2.2.2.2.1, ()), ()) S) (fun o18 S => K (o18.1, ()) S) ((x.1.1, x.1.2.1, x.1.2.2.1, x.1.2.2.2.1, x.1.2.2.2.2.1, ()), true, ()) S) (q0 k (fun o19 S => q2 k (fun o20 S => K (o20.1, ()) S) ((o19.1.1, o19.1.2.1, o19.1.2.2.1, o19.1.2.2.2.1, o19.1.2.2.2.2.1, ()), ()) S) (fun o21 S => K (o21.1, ()) S) ((x.1.1, x.1.2.1, x.1.2.2.1, x.1.2.2.2.1, x.1.2.2.2.2.1, ()), (decide (x.1.2.2.2.2.1 > (50 : Int))), ()) S)))
def en (k : Nat) : Ent PG R := mkFn T_ok Tryz.func85 ps rs (C k) (.seq .auto (.seq (.block (.seq .auto (.piece (Q0 k).h))) (.piece (Q2 k).h))) ⟨tr, ⟨tr, (Q0 k).ok⟩, (Q2 k).ok⟩ (fn k) (by kernel_rfl) (by kernel_rfl) (fun x S K => by kernel_rfl)
end G.action_CheckResult
/-! ### 86: slices.Equal[[]smithyard/api.Look,smithyard/api.Look] -/
namespace G.slices_Equal_s_api_Look_api_Look
abbrev e0 : Mk := nX (nX (n6 []))
abbrev m0 : Mk := sL 3 (sL 3 (nX (sI (sI (nX (n2 []))))))
abbrev mr : Mk := n4 (sB (nX (nX (n1 []))))
abbrev ps : Mk := sL 3 (sL 3 [])
abbrev rs : Mk := sB []
def C (k : Nat) : List (Ent PG R) := []
def b0 (k : Nat) (J0 : Kt R (U1)) (Jret : Kt R (Bool × U1)) (rec : Kt R (LL × LL × Int × Int × U1)) (x : (LL × LL × Int × Int × U1)) (S : LL) : Option R :=
  ifB (decide (x.2.2.2.1 < x.2.2.1)) (idxL x.1 x.2.2.2.1 fun v1 => mat 3 v1 fun c2 => asStr (c2.getD 0 .any) fun s3 => asStr (c2.getD 1 .any) fun s4 => asBool (c2.getD 2 .any) fun b5 => idxL x.2.1 x.2.2.2.1 fun v6 => mat 3 v6 fun c7 => asStr (c7.getD 0 .any) fun s8 => asStr (c7.getD 1 .any) fun s9 => asBool (c7.getD 2 .any) fun b10 => ifB (!((strEq s3 s8 && (strEq s4 s9 && (b5 == b10 && true))) == true)) (Jret (false, ()) S) (rec (x.1, x.2.1, x.2.2.1, (IntKind.wrap .i64 (x.2.2.2.1 + (1 : Int))), ()) S)) (J0 (()) S)
def L0 (k : Nat) : Pc PG R (.loop (sub (cd Tryz.f86) [tt,tt,ff,tt,ff,ff])) := mkLoop T_ok (C k) _ m0 k (.seq .auto (.seq (.cond .auto (.mask e0 .auto)) (.seq (.block (.seq .auto (.seq (.drawn [] [0, 1, 2, 3, 4, 5, 6, 7, 8]) (.cond (.seq .auto (.mask mr .auto)) .auto)))) .auto))) ⟨tr, ⟨tr, tr⟩, ⟨tr, (drawn_an (by kernel_rfl)), ⟨tr, tr⟩, tr⟩, tr⟩ (fun K => b0 k (fun o S => K (.ext 0) (Qm e0 o S)) (fun o S => K .ret (Qm mr o S))) (fun K rec x S => by kernel_rfl)
def fn (k : Nat) (x : (LL × LL × U1)) (S : LL) (K : Kt R (Bool × U1)) : Option R :=
  ifB ((x.1.length : Int) != (x.2.1.length : Int)) (K (false, ()) S) (rounds (b0 k (fun o11 S => K (true, ()) S) (fun o12 S => K (o12.1, ()) S)) k (x.1, x.2.1, (x.1.length : Int), (0 : Int), ()) S)
def en (k : Nat) : Ent PG R := mkFn T_ok Tryz.func86 ps rs (C k) (.seq .auto (.seq (.seq .auto (.cond (.seq .auto (.mask mr .auto)) .auto)) (.seq (.seq .auto (.block (.piece (L0 k).h))) (.seq .auto (.mask mr .auto))))) ⟨tr, ⟨tr, ⟨tr, tr⟩, tr⟩, ⟨tr, (L0 k).ok⟩, tr, tr⟩ (fn k) (by kernel_rfl) (by kernel_rfl) (fun x S K => by kernel_rfl)
end G.slices_Equal_s_api_Look_api_Look
/-! ### 54: smithyard/steps.CheckMemory -/
namespace G.steps_CheckMemory
abbrev c0 : Mk := sL 8 (n2 (sI (sX [.str, .str, .sl 3, jI, .str, .sl 3, .sl 3, jI] (n1 (sI (n3 (sL 8 (sI (sI (nX (nX (nX (nX (nX (n4 [])))))))))))))))
abbrev c1 : Mk := sL 8 (n2 (sI (sX [.str, .str, .sl 3, jI, .str, .sl 3, .sl 3, jI] (n5 (sL 8 (sI (sI (nX (nX (nX (nX (nX (n4 [])))))))))))))
abbrev c2 : Mk := sL 8 (n2 (sI (sX [.str, .str, .sl 3, jI, .str, .sl 3, .sl 3, jI] (n5 (sL 8 (sI (sI (nX (nX (n6 (sB (nX (nX (n7 []))))))))))))))
abbrev c3 : Mk := sL 8 (n2 (sI (sX [.str, .str, .sl 3, jI, .str, .sl 3, .sl 3, jI] (n5 (sL 8 (sI (sI (nX (nX (nX (n1 (sB (nX (nX (n2 [])))))))))))))))
abbrev z0 : Mk := sL 8 (n2 (sI (sX [.str, .str, .sl 3, jI, .str, .sl 3, .sl 3, jI] (n5 (sL 8 (sI (sI (nX (nX (nX (nX (nX (n4 [])))))))))))))
abbrev z1 : Mk := sL 8 (n9 (sL 8 (sI (sI (nX (nX (nX (nX (nX (n4 []))))))))))
abbrev z2 : Mk := sL 8 (n9 (sL 8 (sI (sI (nX (nX (nX (nX (nX (n4 []))))))))))
abbrev z3 : Mk := sL 8 (n9 (sL 8 (sI (sI (nX (nX (nX (nX (nX (n4 []))))))))))
abbrev e0 : Mk := nX (nX (nX (nX (nX (nX (n7 []))))))
abbrev m0 : Mk := sL 8 (n9 (sL 8 (sI (sI (nX (nX (nX (nX (nX (n4 []))))))))))
abbrev mr : Mk := n2 (sI (nX (nX (nX (nX (nX (nX (n4 []))))))))
abbrev ps : Mk := sL 8 []
abbrev rs : Mk := sI []
def C (k : Nat) : List (Ent PG R) := [blob_IsPath.en k, blob_IsDigest.en k, action_CheckLooks.en k, action_CheckResult.en k, slices_Equal_s_api_Look_api_Look.en k]
def q3 (k : Nat) (Jnrm : Kt R (LL × LL × Int × Int × U1)) (Jret : Kt R (Int × U1)) (x : (LL × Int × (BA × BA × LL × Int × BA × LL × LL × Int × U1) × LL × Int × Int × Bool × U1)) (S : LL) : Option R :=
  ifB x.2.2.2.2.2.2.1 (Jret ((12 : Int), ()) S) (ifB (decide (x.2.1 > (0 : Int))) (idxL x.1 (IntKind.wrap .i64 (x.2.1 - (1 : Int))) fun v17 => asStr (leaf v17 0) fun s18 => ifB (strLt x.2.2.1.1 s18 || strEq x.2.2.1.1 s18) (Jret ((8 : Int), ()) S) (Jnrm (x.1, x.2.2.2.1, x.2.2.2.2.1, x.2.2.2.2.2.1, ()) S)) (Jnrm (x.1, x.2.2.2.1, x.2.2.2.2.1, x.2.2.2.2.2.1, ()) S))
def Q3 (k : Nat) : Pc PG R (sub (cd Tryz.f54) [tt,tt,ff,tt,ff,ff,tt,tt,ff,ff,tt,tt,tt,tt,ff,tt,tt,tt]) := mkEnd T_ok (C k) _ c3 z3 (.cond (.seq .auto (.mask mr .auto)) (.seq (.drawn [] [0, 1, 2, 3, 4, 5, 6, 7, 8, 9, 10, 11, 12, 13]) (.cond (.seq .auto (.mask mr .auto)) .auto))) ⟨⟨tr, tr⟩, (drawn_an (by kernel_rfl)), ⟨tr, tr⟩, tr⟩ (fun x S K => q3 k (fun o S => K .nrm (Qm z3 o S)) (fun o S => K .ret (Qm mr o S)) x S) (fun x S K => by kernel_rfl)
def q2 (k : Nat) (Jnrm : Kt R (LL × LL × Int × Int × U1)) (Jret : Kt R (Int × U1)) (x : (LL × Int × (BA × BA × LL × Int × BA × LL × LL × Int × U1) × LL × Int × Int × Bool × U1)) (S : LL) : Option R :=
  ifB x.2.2.2.2.2.2.1 (Jret ((11 : Int), ()) S) (slices_Equal_s_api_Look_api_Look.fn k (x.2.2.1.2.2.1, x.2.2.1.2.2.2.2.2.2.1, ()) S fun r16 S => q3 k (fun o19 S => Jnrm (o19.1, o19.2.1, o19.2.2.1, o19.2.2.2.1, ()) S) (fun o20 S => Jret (o20.1, ()) S) (x.1, x.2.1, (x.2.2.1.1, x.2.2.1.2.1, x.2.2.1.2.2.1, x.2.2.1.2.2.2.1, x.2.2.1.2.2.2.2.1, x.2.2.1.2.2.2.2.2.1, x.2.2.1.2.2.2.2.2.2.1, x.2.2.1.2.2.2.2.2.2.2.1, ()), x.2.2.2.1, x.2.2.2.2.1, x.2.2.2.2.2.1, (!r16.1), ()) S)
def Q2 (k : Nat) : Pc PG R (sub (cd Tryz.f54) [tt,tt,ff,tt,ff,ff,tt,tt,ff,ff,tt,tt,tt,tt,ff,tt]) := mkEnd T_ok (C k) _ c2 z2 (.cond (.seq .auto (.mask mr .auto)) (.seq .auto (.piece (Q3 k).h))) ⟨⟨tr, tr⟩, tr, (Q3 k).ok⟩ (fun x S K => q2 k (fun o S => K .nrm (Qm z2 o S)) (fun o S => K .ret (Qm mr o S)) x S) (fun x S K => by kernel_rfl)
def q0 (k : Nat) (Jnrm : Kt R (LL × Int × (BA × BA × LL × Int × BA × LL × LL × Int × U1) × LL × Int × Int × U1)) (Jret : Kt R (Int × U1)) (x : (LL × Int × (BA × BA × LL × Int × BA × LL × LL × Int × U1) × Int × LL × Int × Int × U1)) (S : LL) : Option R :=
  ifB (x.2.2.2.1 != (0 : Int)) (Jret (x.2.2.2.1, ()) S) (Jnrm (x.1, x.2.1, (x.2.2.1.1, x.2.2.1.2.1, x.2.2.1.2.2.1, x.2.2.1.2.2.2.1, x.2.2.1.2.2.2.2.1, x.2.2.1.2.2.2.2.2.1, x.2.2.1.2.2.2.2.2.2.1, x.2.2.1.2.2.2.2.2.2.2.1, ()), x.2.2.2.2.1, x.2.2.2.2.2.1, x.2.2.2.2.2.2.1, ()) S)
def Q0 (k : Nat) : Pc PG R (sub (cd Tryz.f54) [tt,tt,ff,tt,ff,ff,tt,tt,ff,ff,tt,tt,tt,ff,tt]) := mkEnd T_ok (C k) _ c0 z0 (.seq .auto (.cond (.seq .auto (.mask mr .auto)) .auto)) ⟨tr, ⟨tr, tr⟩, tr⟩ (fun x S K => q0 k (fun o S => K .nrm (Qm z0 o S)) (fun o S => K .ret (Qm mr o S)) x S) (fun x S K => by kernel_rfl)
def q1 (k : Nat) (Jnrm : Kt R (LL × LL × Int × Int × U1)) (Jret : Kt R (Int × U1)) (x : (LL × Int × (BA × BA × LL × Int × BA × LL × LL × Int × U1) × LL × Int × Int × U1)) (S : LL) : Option R :=
  q2 k (fun o21 S => Jnrm (o21.1, o21.2.1, o21.2.2.1, o21.2.2.2.1, ()) S) (fun o22 S => Jret (o22.1, ()) S) (x.1, x.2.1, (x.2.2.1.1, x.2.2.1.2.1, x.2.2.1.2.2.1, x.2.2.1.2.2.2.1, x.2.2.1.2.2.2.2.1, x.2.2.1.2.2.2.2.2.1, x.2.2.1.2.2.2.2.2.2.1, x.2.2.1.2.2.2.2.2.2.2.1, ()), x.2.2.2.1, x.2.2.2.2.1, x.2.2.2.2.2.1, (x.2.2.1.2.2.2.1 != (0 : Int)), ()) S
def Q1 (k : Nat) : Pc PG R (sub (cd Tryz.f54) [tt,tt,ff,tt,ff,ff,tt,tt,ff,ff,tt,tt,tt,tt]) := mkEnd T_ok (C k) _ c1 z1 (.block (.seq .auto (.piece (Q2 k).h))) ⟨tr, (Q2 k).ok⟩ (fun x S K => q1 k (fun o S => K .nrm (Qm z1 o S)) (fun o S => K .ret (Qm mr o S)) x S) (fun x S K => by kernel_rfl)
def b0 (k : Nat) (J0 : Kt R (U1)) (Jret : Kt R (Int × U1)) (rec : Kt R (LL × LL × Int × Int × U1)) (x : (LL × LL × Int × Int × U1)) (S : LL) : Option R :=
  ifB (decide (x.2.2.2.1 < x.2.2.1)) (idxL x.2.1 x.2.2.2.1 fun v1 => mat 8 v1 fun c2 => asStr (c2.getD 0 .any) fun s3 => asStr (c2.getD 1 .any) fun s4 => asSl 3 (c2.getD 2 .any) fun l5 => asInt .i64 (c2.getD 3 .any) fun n6 => asStr (c2.getD 4 .any) fun s7 => asSl 3 (c2.getD 5 .any) fun l8 => asSl 3 (c2.getD 6 .any) fun l9 => asInt .i64 (c2.getD 7 .any) fun n10 => blob_IsPath.fn k (s3, ()) S fun r11 S => ifB (!r11.1) (Jret ((3 : Int), ()) S) (blob_IsDigest.fn k (s4, ()) S fun r12 S => ifB (!r12.1) (Jret ((3 : Int), ()) S) (action_CheckLooks.fn k (l5, ()) S fun r13 S => ifB (r13.1 != (0 : Int)) (Jret (r13.1, ()) S) (action_CheckResult.fn k ((n6, s7, l8, l9, n10, ()), ()) S fun r14 S => q0 k (fun o15 S => q1 k (fun o23 S => rec (o23.1, o23.2.1, o23.2.2.1, (IntKind.wrap .i64 (o23.2.2.2.1 + (1 : Int))), ()) S) (fun o24 S => Jret (o24.1, ()) S) (o15.1, o15.2.1, (o15.2.2.1.1, o15.2.2.1.2.1, o15.2.2.1.2.2.1, o15.2.2.1.2.2.2.1, o15.2.2.1.2.2.2.2.1, o15.2.2.1.2.2.2.2.2.1, o15.2.2.1.2.2.2.2.2.2.1, o15.2.2.1.2.2.2.2.2.2.2.1, ()), o15.2.2.2.1, o15.2.2.2.2.1, o15.2.2.2.2.2.1, ()) S) (fun o25 S => Jret (o25.1, ()) S) (x.1, x.2.2.2.1, (s3, s4, l5, n6, s7, l8, l9, n10, ()), r14.1, x.2.1, x.2.2.1, x.2.2.2.1, ()) S)))) (J0 (()) S)
def L0 (k : Nat) : Pc PG R (.loop (sub (cd Tryz.f54) [tt,tt,ff,tt,ff,ff])) := mkLoop T_ok (C k) _ m0 k (.seq .auto (.seq (.cond .auto (.mask e0 .auto)) (.seq (.block (.seq .auto (.seq (.seq .auto (.cond (.seq .auto (.mask mr .auto)) .auto)) (.seq (.seq .auto (.seq .auto (.cond (.seq .auto (.mask mr .auto)) .auto))) (.seq (.seq .auto (.piece (Q0 k).h)) (.piece (Q1 k).h)))))) .auto))) ⟨tr, ⟨tr, tr⟩, ⟨tr, ⟨tr, ⟨tr, tr⟩, tr⟩, ⟨tr, tr, ⟨tr, tr⟩, tr⟩, ⟨tr, (Q0 k).ok⟩, (Q1 k).ok⟩, tr⟩ (fun K => b0 k (fun o S => K (.ext 0) (Qm e0 o S)) (fun o S => K .ret (Qm mr o S))) (fun K rec x S => by kernel_rfl)
def fn (k : Nat) (x : (LL × U1)) (S : LL) (K : Kt R (Int × U1)) : Option R :=
  ifB (decide ((x.1.length : Int) > (500 : Int))) (K ((2 : Int), ()) S) (rounds (b0 k (fun o26 S => K ((0 : Int), ()) S) (fun o27 S => K (o27.1, ()) S)) k (x.1, x.1, (x.1.length : Int), (0 : Int), ()) S)
def en (k : Nat) : Ent PG R := mkFn T_ok Tryz.func54 ps rs (C k) (.seq .auto (.seq (.seq .auto (.cond (.seq .auto (.mask mr .auto)) .auto)) (.seq (.seq .auto (.block (.piece (L0 k).h))) (.seq .auto (.mask mr .auto))))) ⟨tr, ⟨tr, ⟨tr, tr⟩, tr⟩, ⟨tr, (L0 k).ok⟩, tr, tr⟩ (fn k) (by kernel_rfl) (by kernel_rfl) (fun x S K => by kernel_rfl)
end G.steps_CheckMemory
/-! ### 87: slices.Clone[[]smithyard/api.Memory,smithyard/api.Memory] -/
namespace G.slices_Clone_s_api_Memory_api_Memory_obj
abbrev mr : Mk := n2 (sh (.lf (.raw)) (n5 []))
abbrev ps : Mk := sh (.lf (.raw)) []
abbrev rs : Mk := sh (.lf (.raw)) []
def C (k : Nat) : List (Ent PG R) := []
def fn (k : Nat) (x : (LV × U1)) (S : LL) (K : Kt R (LV × U1)) : Option R :=
  isNil (dup x.1) fun b1 => ifB (b1 == true) (K (.nilsl, ()) S) (newObj S (.obj 62 []) fun i2 S => asSl 8 (dup x.1) fun l5 => appO 62 8 136 S (.osl i2 0 8 0) l5 fun v4 S => K (v4, ()) S)
def en (k : Nat) : Ent PG R := mkFn T_ok Tryz.func87 ps rs (C k) (.seq .auto (.seq (.seq (.own [(0, 2)]) (.cond (.seq .auto (.mask mr .auto)) .auto)) (.seq (.own [(0, 1), (1, 2), (2, 1)]) (.mask mr .auto)))) ⟨tr, ⟨tr, ⟨tr, tr⟩, tr⟩, tr, tr⟩ (fn k) (by kernel_rfl) (by kernel_rfl) (fun x S K => by kernel_rfl)
end G.slices_Clone_s_api_Memory_api_Memory_obj
/-! ### 88: slices.Clone[[]smithyard/api.Look,smithyard/api.Look] -/
namespace G.slices_Clone_s_api_Look_api_Look
abbrev mr : Mk := n2 (sO 124 3 (n5 []))
abbrev ps : Mk := sL 3 []
abbrev rs : Mk := sO 124 3 []
def C (k : Nat) : List (Ent PG R) := []
def fn (k : Nat) (x : (LL × U1)) (S : LL) (K : Kt R (LL × U1)) : Option R :=
  isNil (.sl 3 x.1) fun b1 => ifB (b1 == true) (K ([], ()) S) (app 40 [] x.1 fun l2 => K (l2, ()) S)
def en (k : Nat) : Ent PG R := mkFn T_ok Tryz.func88 ps rs (C k) (.seq .auto (.seq (.seq .auto (.cond (.seq .auto (.mask mr .auto)) .auto)) (.seq .auto (.mask mr .auto)))) ⟨tr, ⟨tr, ⟨tr, tr⟩, tr⟩, tr, tr⟩ (fn k) (by kernel_rfl) (by kernel_rfl) (fun x S K => by kernel_rfl)
def anC : An R := .seq .auto (.seq (.seq .auto (.cond (.seq .auto (.mask mr .auto)) .auto)) (.seq .auto (.mask mr .auto)))
theorem body : HSound PG 88 (lbody T (entC (C (R := R) 0)) anC Tryz.f88) :=
  lbody_ok T_ok (entC_ok _) (fun c hc => by
    have : c = cd Tryz.f88 := by
      have e : Tryz.f88.body = some (cd Tryz.f88) := by kernel_rfl
      rw [e] at hc; cases hc; rfl
    subst this
    exact ⟨tr, ⟨tr, ⟨tr, tr⟩, tr⟩, tr, tr⟩) Tryz.func88 (enters_ok Tryz.func88 (by kernel_rfl) (by kernel_rfl))
end G.slices_Clone_s_api_Look_api_Look
namespace G.slices_Clone_s_api_Look_api_Look_c
abbrev ps : Mk := [some (.lf (.sl 3))]
abbrev rs : Mk := [some (.lf (.own 124 3))]
def fn (_k : Nat) (x : LL × U1) (S : LL) (K : Kt R (LL × U1)) : Option R := handF ps rs (cloneF 40) x S K
theorem ok (k : Nat) : HSound PG 88 (hT (R := R) ps fun x S K => fn k x S fun r S => K (resE rs r) S) :=
  hand_ok (enters_ok Tryz.func88 (by kernel_rfl) (by kernel_rfl)) (ps := ps) (rs := rs) (g := cloneF 40) fun x r S hr => by
    obtain ⟨xs, u⟩ := x
    obtain ⟨rfl, hd⟩ := cloneF_some hr
    refine LCalls.nilCases (fun h => ?_) ?_
    · have h : xs = [] := h
      subst h
      exact slices_Clone_s_api_Look_api_Look.body.calls (by kernel_rfl)
    · exact slices_Clone_s_api_Look_api_Look.body.calls (Eq.trans (b := app 40 [] xs fun l => some (.own 124 3 l, S)) (by kernel_rfl) (by rw [app_at hd]; rfl))
def en (k : Nat) : Ent PG R := ⟨88, _, ok k⟩
end G.slices_Clone_s_api_Look_api_Look_c
/-! ### 171: slices.Clone[[]smithyard/api.File,smithyard/api.File] -/
namespace G.slices_Clone_s_api_File_api_File_obj
abbrev mr : Mk := n2 (sh (.lf (.raw)) (n5 []))
abbrev ps : Mk := sh (.lf (.raw)) []
abbrev rs : Mk := sh (.lf (.raw)) []
def C (k : Nat) : List (Ent PG R) := []
def fn (k : Nat) (x : (LV × U1)) (S : LL) (K : Kt R (LV × U1)) : Option R :=
  isNil (dup x.1) fun b1 => ifB (b1 == true) (K (.nilsl, ()) S) (newObj S (.obj 182 []) fun i2 S => asSl 3 (dup x.1) fun l5 => appO 182 3 48 S (.osl i2 0 3 0) l5 fun v4 S => K (v4, ()) S)
def en (k : Nat) : Ent PG R := mkFn T_ok Tryz.func171 ps rs (C k) (.seq .auto (.seq (.seq (.own [(0, 2)]) (.cond (.seq .auto (.mask mr .auto)) .auto)) (.seq (.own [(0, 1), (1, 2), (2, 1)]) (.mask mr .auto)))) ⟨tr, ⟨tr, ⟨tr, tr⟩, tr⟩, tr, tr⟩ (fn k) (by kernel_rfl) (by kernel_rfl) (fun x S K => by kernel_rfl)
end G.slices_Clone_s_api_File_api_File_obj
/-! ### 172: slices.Clone[[]byte,byte] -/
namespace G.slices_Clone_s_byte_byte
abbrev mr : Mk := n2 (sO 5 1 (n5 []))
abbrev ps : Mk := sL 1 []
abbrev rs : Mk := sO 5 1 []
def C (k : Nat) : List (Ent PG R) := []
def fn (k : Nat) (x : (LL × U1)) (S : LL) (K : Kt R (LL × U1)) : Option R :=
  isNil (.sl 1 x.1) fun b1 => ifB (b1 == true) (K ([], ()) S) (app 1 [] x.1 fun l2 => K (l2, ()) S)
def en (k : Nat) : Ent PG R := mkFn T_ok Tryz.func172 ps rs (C k) (.seq .auto (.seq (.seq .auto (.cond (.seq .auto (.mask mr .auto)) .auto)) (.seq .auto (.mask mr .auto)))) ⟨tr, ⟨tr, ⟨tr, tr⟩, tr⟩, tr, tr⟩ (fn k) (by kernel_rfl) (by kernel_rfl) (fun x S K => by kernel_rfl)
def anC : An R := .seq .auto (.seq (.seq .auto (.cond (.seq .auto (.mask mr .auto)) .auto)) (.seq .auto (.mask mr .auto)))
theorem body : HSound PG 172 (lbody T (entC (C (R := R) 0)) anC Tryz.f172) :=
  lbody_ok T_ok (entC_ok _) (fun c hc => by
    have : c = cd Tryz.f172 := by
      have e : Tryz.f172.body = some (cd Tryz.f172) := by kernel_rfl
      rw [e] at hc; cases hc; rfl
    subst this
    exact ⟨tr, ⟨tr, ⟨tr, tr⟩, tr⟩, tr, tr⟩) Tryz.func172 (enters_ok Tryz.func172 (by kernel_rfl) (by kernel_rfl))
end G.slices_Clone_s_byte_byte
namespace G.slices_Clone_s_byte_byte_c
abbrev ps : Mk := [some (.lf (.sl 1))]
abbrev rs : Mk := [some (.lf (.own 5 1))]
def fn (_k : Nat) (x : LL × U1) (S : LL) (K : Kt R (LL × U1)) : Option R := handF ps rs (cloneF 1) x S K
theorem ok (k : Nat) : HSound PG 172 (hT (R := R) ps fun x S K => fn k x S fun r S => K (resE rs r) S) :=
  hand_ok (enters_ok Tryz.func172 (by kernel_rfl) (by kernel_rfl)) (ps := ps) (rs := rs) (g := cloneF 1) fun x r S hr => by
    obtain ⟨xs, u⟩ := x
    obtain ⟨rfl, hd⟩ := cloneF_some hr
    refine LCalls.nilCases (fun h => ?_) ?_
    · have h : xs = [] := h
      subst h
      exact slices_Clone_s_byte_byte.body.calls (by kernel_rfl)
    · exact slices_Clone_s_byte_byte.body.calls (Eq.trans (b := app 1 [] xs fun l => some (.own 5 1 l, S)) (by kernel_rfl) (by rw [app_at hd]; rfl))
def en (k : Nat) : Ent PG R := ⟨172, _, ok k⟩
end G.slices_Clone_s_byte_byte_c
/-! ### 114: smithyard/blob.Own -/
namespace G.blob_Own
abbrev e0 : Mk := n3 (sh (.lf (.raw)) (nX (nX [])))
abbrev m0 : Mk := n3 (sh (.lf (.raw)) (n4 (sI (sI (nX (n4 []))))))
abbrev mr : Mk := n2 (sL 3 (nX (nX (n1 []))))
abbrev ps : Mk := sh (.lf (.raw)) []
abbrev rs : Mk := sL 3 []
def C (k : Nat) : List (Ent PG R) := [slices_Clone_s_api_File_api_File_obj.en k, slices_Clone_s_byte_byte_c.en k]
def b0 (k : Nat) (J0 : Kt R (LV × U1)) (rec : Kt R (LV × Int × Int × U1)) (x : (LV × Int × Int × U1)) (S : LL) : Option R :=
  ifB (decide (x.2.2.1 < x.2.1)) (oslOr (dup x.1) (fun i4 p5 z7 n6 => ifB (Nat.beq z7 3) (idxN n6 x.2.2.1 fun v3 => objAt S i4 fun ty c8 => ldSl 1 c8 ((p5 + v3 * z7) + 2) fun l9 => slices_Clone_s_byte_byte_c.fn k (l9, ()) S fun r10 S => oslOr (dup x.1) (fun i12 p13 z15 n14 => ifB (Nat.beq z15 3) (idxN n14 x.2.2.1 fun v11 => objAt S i12 fun ty c16 => stO c16 ((p13 + v11 * z15) + 2) [(.own 5 1 r10.1)] fun c17 => setS (S.set i12 (ty c17)) fun S => rec (x.1, x.2.1, (IntKind.wrap .i64 (x.2.2.1 + (1 : Int))), ()) S) none) none) none) none) (J0 (x.1, ()) S)
def L0 (k : Nat) : Pc PG R (.loop (sub (cd Tryz.f114) [tt,tt,ff,tt,ff,ff])) := mkLoop T_ok (C k) _ m0 k (.seq .auto (.seq (.cond .auto (.mask e0 .auto)) (.seq (.block (.seq .auto (.own [(0, 2), (2, 2), (4, 1), (6, 1), (8, 1), (10, 2)]))) .auto))) ⟨tr, ⟨tr, tr⟩, ⟨tr, tr⟩, tr⟩ (fun K => b0 k (fun o S => K (.ext 0) (Qm e0 o S))) (fun K rec x S => by kernel_rfl)
def fn0 (k : Nat) (x : (LV × U1)) (S : LL) (K : Kt R (LL × U1)) : Option R :=
  slices_Clone_s_api_File_api_File_obj.fn k ((dup x.1), ()) S fun r1 S => lenO (dup r1.1) fun n2 => rounds (b0 k (fun o18 S => frzO 3 o18.1 S fun c19 S => K (c19, ()) S)) k (r1.1, (n2 : Int), (0 : Int), ()) S
def en0 (k : Nat) : Ent PG R := mkFn T_ok Tryz.func114 ps rs (C k) (.seq .auto (.seq (.own [(0, 2)]) (.seq (.seq (.own [(0, 2), (1, 1)]) (.block (.piece (L0 k).h))) (.seq (.own [(0, 1)]) (.frr 2 3 (.mask mr .auto)))))) ⟨tr, tr, ⟨tr, (L0 k).ok⟩, tr, tr⟩ (fn0 k) (by kernel_rfl) (by kernel_rfl) (fun x S K => by kernel_rfl)
def fn (k : Nat) (x : (LV × U1)) (S : LL) (K : Kt R (LL × U1)) : Option R := popK rs 6 S (fn0 k x S fun r S => some (resE rs r, S)) K
def en (k : Nat) : Ent PG R := mkPop (rs := rs) (en0 k).ok
end G.blob_Own
/-! ### 114: smithyard/blob.Own, nil or not -/
namespace G.blob_Own_n
def fn (k : Nat) (x : LL × U1) (S : LL) (K : Kt R (LL × U1)) : Option R := nilK blob_Own.rs 3 x.1 (fun v => blob_Own.fn k (v, ()) S fun r S => some (resE blob_Own.rs r, S)) K
def en (k : Nat) : Ent PG R := mkNil blob_Own.rs 3 (blob_Own.en k).ok
end G.blob_Own_n
/-! ### 89: smithyard/steps.ownResult -/
namespace G.steps_ownResult
abbrev mr : Mk := n2 (sX [jI, .str, .sl 3, .sl 3, jI] (n9 []))
abbrev ps : Mk := sA [jI, .str, .sl 3, .sl 3, jI] []
abbrev rs : Mk := sA [jI, .str, .sl 3, .sl 3, jI] []
def C (k : Nat) : List (Ent PG R) := [slices_Clone_s_api_Look_api_Look_c.en k, blob_Own_n.en k]
def fn (k : Nat) (x : ((Int × BA × LL × LL × Int × U1) × U1)) (S : LL) (K : Kt R ((Int × BA × LL × LL × Int × U1) × U1)) : Option R :=
  blob_Own_n.fn k (x.1.2.2.1, ()) S fun r1 S => slices_Clone_s_api_Look_api_Look_c.fn k (x.1.2.2.2.1, ()) S fun r2 S => K ((x.1.1, x.1.2.1, r1.1, r2.1, x.1.2.2.2.2.1, ()), ()) S
def en (k : Nat) : Ent PG R := mkFn T_ok Tryz.func89 ps rs (C k) (.seq .auto (.seq (.drawn [] [0, 1, 3, 4, 2, 6, 5, 7, 8, 9]) (.seq .auto (.mask mr .auto)))) ⟨tr, (drawn_an (by kernel_rfl)), tr, tr⟩ (fn k) (by kernel_rfl) (by kernel_rfl) (fun x S K => by kernel_rfl)
end G.steps_ownResult
/-! ### 55: smithyard/steps.own -/
namespace G.steps_own
abbrev e0 : Mk := n3 (sh (.lf (.raw)) (nX (nX (nX []))))
abbrev m0 : Mk := n3 (sh (.lf (.raw)) (n4 (sI (sI (nX (nX (n4 [])))))))
abbrev mr : Mk := n2 (sh (.lf (.raw)) (nX (nX (nX (n1 [])))))
abbrev ps : Mk := sh (.lf (.raw)) []
abbrev rs : Mk := sh (.lf (.raw)) []
def C (k : Nat) : List (Ent PG R) := [slices_Clone_s_api_Memory_api_Memory_obj.en k, slices_Clone_s_api_Look_api_Look_c.en k, steps_ownResult.en k]
def b0 (k : Nat) (J0 : Kt R (LV × U1)) (rec : Kt R (LV × Int × Int × U1)) (x : (LV × Int × Int × U1)) (S : LL) : Option R :=
  ifB (decide (x.2.2.1 < x.2.1)) (oslOr (dup x.1) (fun i4 p5 z7 n6 => ifB (Nat.beq z7 8) (idxN n6 x.2.2.1 fun v3 => oslOr (dup x.1) (fun i9 p10 z12 n11 => ifB (Nat.beq z12 8) (idxN n11 x.2.2.1 fun v8 => objAt S i4 fun ty c13 => ldSl 3 c13 ((p5 + v3 * z7) + 2) fun l14 => slices_Clone_s_api_Look_api_Look_c.fn k (l14, ()) S fun r15 S' => quiR S S' fun S => objAt S i9 fun ty c16 => ifB (Nat.ble (((p10 + v8 * z12) + 3) + 5) c16.length) (asInt .i64 ((c16.map dupL).getD ((p10 + v8 * z12) + 3) .any) fun n17 => asStr ((c16.map dupL).getD (((p10 + v8 * z12) + 3) + 1) .any) fun s18 => asSl 3 ((c16.map dupL).getD ((((p10 + v8 * z12) + 3) + 1) + 1) .any) fun l19 => asSl 3 ((c16.map dupL).getD (((((p10 + v8 * z12) + 3) + 1) + 1) + 1) .any) fun l20 => asInt .i64 ((c16.map dupL).getD ((((((p10 + v8 * z12) + 3) + 1) + 1) + 1) + 1) .any) fun n21 => steps_ownResult.fn k ((n17, s18, l19, l20, n21, ()), ()) S fun r22 S' => quiR S S' fun S => oslOr (dup x.1) (fun i24 p25 z27 n26 => ifB (Nat.beq z27 8) (idxN n26 x.2.2.1 fun v23 => objAt S i24 fun ty c28 => stO c28 ((p25 + v23 * z27) + 2) [(.own 124 3 r15.1)] fun c29 => setS (S.set i24 (ty c29)) fun S => oslOr (dup x.1) (fun i31 p32 z34 n33 => ifB (Nat.beq z34 8) (idxN n33 x.2.2.1 fun v30 => objAt S i31 fun ty c35 => stO c35 ((p32 + v30 * z34) + 3) [(.int .i64 r22.1.1), (.str r22.1.2.1), (.sl 3 r22.1.2.2.1), (.sl 3 r22.1.2.2.2.1), (.int .i64 r22.1.2.2.2.2.1)] fun c36 => setS (S.set i31 (ty c36)) fun S => rec (x.1, x.2.1, (IntKind.wrap .i64 (x.2.2.1 + (1 : Int))), ()) S) none) none) none) none) none) none) none) none) none) (J0 (x.1, ()) S)
def L0 (k : Nat) : Pc PG R (.loop (sub (cd Tryz.f55) [tt,tt,ff,tt,ff,ff])) := mkLoop T_ok (C k) _ m0 k (.seq .auto (.seq (.cond .auto (.mask e0 .auto)) (.seq (.block (.seq .auto (.quiet [(0, 2), (2, 2), (4, 2), (6, 1), (8, 1), (10, 2), (12, 1), (14, 1), (16, 1), (18, 2), (19, 1), (21, 1)] [0, 1, 2, 3, 4, 5, 6, 7, 10, 11, 12, 13, 8, 9, 14, 15, 16, 17, 18, 19, 20, 21]))) .auto))) ⟨tr, ⟨tr, tr⟩, ⟨tr, (quiet_an (by kernel_rfl))⟩, tr⟩ (fun K => b0 k (fun o S => K (.ext 0) (Qm e0 o S))) (fun K rec x S => by kernel_rfl)
def fn (k : Nat) (x : (LV × U1)) (S : LL) (K : Kt R (LV × U1)) : Option R :=
  slices_Clone_s_api_Memory_api_Memory_obj.fn k ((dup x.1), ()) S fun r1 S => lenO (dup r1.1) fun n2 => rounds (b0 k (fun o37 S => K (o37.1, ()) S)) k (r1.1, (n2 : Int), (0 : Int), ()) S
def en (k : Nat) : Ent PG R := mkFn T_ok Tryz.func55 ps rs (C k) (.seq .auto (.seq (.own [(0, 2)]) (.seq (.seq (.own [(0, 2), (1, 1)]) (.block (.piece (L0 k).h))) (.seq (.own [(0, 1)]) (.mask mr .auto))))) ⟨tr, tr, ⟨tr, (L0 k).ok⟩, tr, tr⟩ (fn k) (by kernel_rfl) (by kernel_rfl) (fun x S K => by kernel_rfl)
end G.steps_own
/-! ### 124: math/bits.Len64 -/
namespace G.math_bits_Len64
abbrev c0 : Mk := sh (.lf (.int .u64)) (n1 (sI (nX (nX (n2 [])))))
abbrev c1 : Mk := sh (.lf (.int .u64)) (n1 (sI (nX (nX (n2 [])))))
abbrev c2 : Mk := sh (.lf (.int .u64)) (n1 (sI (nX (n1 (sB (nX []))))))
abbrev c3 : Mk := sh (.lf (.int .u64)) (n1 (sI (nX (nX (n2 [])))))
abbrev c4 : Mk := sh (.lf (.int .u64)) (n1 (sI (nX (nX (n2 [])))))
abbrev c5 : Mk := sh (.lf (.int .u64)) (n1 (sI (n5 (sB (nX (n6 []))))))
abbrev c6 : Mk := sh (.lf (.int .u64)) (n1 (sI (nX (nX (n2 [])))))
abbrev z2 : Mk := sh (.lf (.int .u64)) (n1 (sI (nX (nX (n2 [])))))
abbrev z3 : Mk := sh (.lf (.int .u64)) (n1 (sI (nX (nX (n2 [])))))
abbrev z5 : Mk := sh (.lf (.int .u64)) (n1 (sI (nX (nX (n2 [])))))
abbrev z6 : Mk := sh (.lf (.int .u64)) (n1 (sI (nX (nX (n2 [])))))
abbrev mr : Mk := n2 (sI (nX (nX (n2 []))))
abbrev ps : Mk := sh (.lf (.int .u64)) []
abbrev rs : Mk := sI []
def C (k : Nat) : List (Ent PG R) := []
def q3 (k : Nat) (Jnrm : Kt R (Int × Int × U1))  (x : (Int × Int × U1)) (S : LL) : Option R :=
  Jnrm (x.1, (IntKind.wrap .i64 (x.2.1 + (8 : Int))), ()) S
def Q3 (k : Nat) : Pc PG R (sub (cd Tryz.f124) [tt,tt,tt,ff,tt,ff,tt]) := mkEnd T_ok (C k) _ c3 z3 (.auto) tr (fun x S K => q3 k (fun o S => K .nrm (Qm z3 o S))  x S) (fun x S K => by kernel_rfl)
def q6 (k : Nat) (Jnrm : Kt R (Int × Int × U1))  (x : (Int × Int × U1)) (S : LL) : Option R :=
  Jnrm (x.1, (IntKind.wrap .i64 (x.2.1 + (16 : Int))), ()) S
def Q6 (k : Nat) : Pc PG R (sub (cd Tryz.f124) [tt,tt,ff,tt,ff,tt]) := mkEnd T_ok (C k) _ c6 z6 (.auto) tr (fun x S K => q6 k (fun o S => K .nrm (Qm z6 o S))  x S) (fun x S K => by kernel_rfl)
def q2 (k : Nat) (Jnrm : Kt R (Int × Int × U1))  (x : (Int × Int × Bool × U1)) (S : LL) : Option R :=
  ifB x.2.2.1 (ifB (decide ((8 : Int) < 0)) (none) (q3 k (fun o3 S => Jnrm (o3.1, o3.2.1, ()) S) ((shI .shr .u64 x.1 (8 : Int)), x.2.1, ()) S)) (Jnrm (x.1, x.2.1, ()) S)
def Q2 (k : Nat) : Pc PG R (sub (cd Tryz.f124) [tt,tt,tt,ff,tt]) := mkEnd T_ok (C k) _ c2 z2 (.cond (.seq .auto (.piece (Q3 k).h)) .auto) ⟨⟨tr, (Q3 k).ok⟩, tr⟩ (fun x S K => q2 k (fun o S => K .nrm (Qm z2 o S))  x S) (fun x S K => by kernel_rfl)
def q0 (k : Nat) (Jret : Kt R (Int × U1)) (x : (Int × Int × U1)) (S : LL) : Option R :=
  idxStr (bs [0, 1, 2, 2, 3, 3, 3, 3, 4, 4, 4, 4, 4, 4, 4, 4, 5, 5, 5, 5, 5, 5, 5, 5, 5, 5, 5, 5, 5, 5, 5, 5, 6, 6, 6, 6, 6, 6, 6, 6, 6, 6, 6, 6, 6, 6, 6, 6, 6, 6, 6, 6, 6, 6, 6, 6, 6, 6, 6, 6, 6, 6, 6, 6, 7, 7, 7, 7, 7, 7, 7, 7, 7, 7, 7, 7, 7, 7, 7, 7, 7, 7, 7, 7, 7, 7, 7, 7, 7, 7, 7, 7, 7, 7, 7, 7, 7, 7, 7, 7, 7, 7, 7, 7, 7, 7, 7, 7, 7, 7, 7, 7, 7, 7, 7, 7, 7, 7, 7, 7, 7, 7, 7, 7, 7, 7, 7, 7, 8, 8, 8, 8, 8, 8, 8, 8, 8, 8, 8, 8, 8, 8, 8, 8, 8, 8, 8, 8, 8, 8, 8, 8, 8, 8, 8, 8, 8, 8, 8, 8, 8, 8, 8, 8, 8, 8, 8, 8, 8, 8, 8, 8, 8, 8, 8, 8, 8, 8, 8, 8, 8, 8, 8, 8, 8, 8, 8, 8, 8, 8, 8, 8, 8, 8, 8, 8, 8, 8, 8, 8, 8, 8, 8, 8, 8, 8, 8, 8, 8, 8, 8, 8, 8, 8, 8, 8, 8, 8, 8, 8, 8, 8, 8, 8, 8, 8, 8, 8, 8, 8, 8, 8, 8, 8, 8, 8, 8, 8, 8, 8, 8, 8, 8, 8, 8, 8, 8, 8, 8, 8, 8, 8, 8, 8, 8, 8]) (IntKind.wrap .u8 x.1) fun c5 => Jret ((IntKind.wrap .i64 (x.2.1 + (IntKind.wrap .i64 c5))), ()) S
def Q0 (k : Nat) : Pc PG R (sub (cd Tryz.f124) [tt,tt,tt,tt]) := mkCut T_ok (C k) _ c0 (.seq .auto (.mask mr .auto)) ⟨tr, tr⟩ (fun x S K => q0 k (fun o S => K .ret (Qm mr o S)) x S) (fun x S K => by kernel_rfl)
def q5 (k : Nat) (Jnrm : Kt R (Int × Int × U1))  (x : (Int × Int × Bool × U1)) (S : LL) : Option R :=
  ifB x.2.2.1 (ifB (decide ((16 : Int) < 0)) (none) (q6 k (fun o1 S => Jnrm (o1.1, o1.2.1, ()) S) ((shI .shr .u64 x.1 (16 : Int)), x.2.1, ()) S)) (Jnrm (x.1, x.2.1, ()) S)
def Q5 (k : Nat) : Pc PG R (sub (cd Tryz.f124) [tt,tt,ff,tt]) := mkEnd T_ok (C k) _ c5 z5 (.cond (.seq .auto (.piece (Q6 k).h)) .auto) ⟨⟨tr, (Q6 k).ok⟩, tr⟩ (fun x S K => q5 k (fun o S => K .nrm (Qm z5 o S))  x S) (fun x S K => by kernel_rfl)
def q1 (k : Nat) (Jret : Kt R (Int × U1)) (x : (Int × Int × U1)) (S : LL) : Option R :=
  q2 k (fun o4 S => q0 k (fun o6 S => Jret (o6.1, ()) S) (o4.1, o4.2.1, ()) S) (x.1, x.2.1, (decide (x.1 ≥ (256 : Int))), ()) S
def Q1 (k : Nat) : Pc PG R (sub (cd Tryz.f124) [tt,tt,tt]) := mkCut T_ok (C k) _ c1 (.seq (.seq .auto (.piece (Q2 k).h)) (.piece (Q0 k).h)) ⟨⟨tr, (Q2 k).ok⟩, (Q0 k).ok⟩ (fun x S K => q1 k (fun o S => K .ret (Qm mr o S)) x S) (fun x S K => by kernel_rfl)
def q4 (k : Nat) (Jret : Kt R (Int × U1)) (x : (Int × Int × U1)) (S : LL) : Option R :=
  q5 k (fun o2 S => q1 k (fun o7 S => Jret (o7.1, ()) S) (o2.1, o2.2.1, ()) S) (x.1, x.2.1, (decide (x.1 ≥ (65536 : Int))), ()) S
def Q4 (k : Nat) : Pc PG R (sub (cd Tryz.f124) [tt,tt]) := mkCut T_ok (C k) _ c4 (.seq (.seq .auto (.piece (Q5 k).h)) (.piece (Q1 k).h)) ⟨⟨tr, (Q5 k).ok⟩, (Q1 k).ok⟩ (fun x S K => q4 k (fun o S => K .ret (Qm mr o S)) x S) (fun x S K => by kernel_rfl)
def fn (k : Nat) (x : (Int × U1)) (S : LL) (K : Kt R (Int × U1)) : Option R :=
  ifB (decide (x.1 ≥ (4294967296 : Int))) (ifB (decide ((32 : Int) < 0)) (none) (q4 k (fun o8 S => K (o8.1, ()) S) ((shI .shr .u64 x.1 (32 : Int)), (32 : Int), ()) S)) (q4 k (fun o9 S => K (o9.1, ()) S) (x.1, (0 : Int), ()) S)
def en (k : Nat) : Ent PG R := mkFn T_ok Tryz.func124 ps rs (C k) (.seq .auto (.seq (.seq .auto (.cond (.seq .auto .auto) .auto)) (.piece (Q4 k).h))) ⟨tr, ⟨tr, ⟨tr, tr⟩, tr⟩, (Q4 k).ok⟩ (fn k) (by kernel_rfl) (by kernel_rfl) (fun x S K => by kernel_rfl)
end G.math_bits_Len64
/-! ### 91: math/bits.Len -/
namespace G.math_bits_Len
abbrev mr : Mk := n2 (sI (n5 []))
abbrev ps : Mk := sh (.lf (.int .u64)) []
abbrev rs : Mk := sI []
def C (k : Nat) : List (Ent PG R) := [math_bits_Len64.en k]
def fn (k : Nat) (x : (Int × U1)) (S : LL) (K : Kt R (Int × U1)) : Option R :=
  math_bits_Len64.fn k (x.1, ()) S fun r1 S => K (r1.1, ()) S
def en (k : Nat) : Ent PG R := mkFn T_ok Tryz.func91 ps rs (C k) (.seq .auto (.seq (.cond (.seq .auto (.mask mr .auto)) .auto) (.seq .auto (.mask mr .auto)))) ⟨tr, ⟨⟨tr, tr⟩, tr⟩, tr, tr⟩ (fn k) (by kernel_rfl) (by kernel_rfl) (fun x S K => by kernel_rfl)
end G.math_bits_Len
/-! ### 58: strings.Compare -/
namespace G.strings_Compare
abbrev mr : Mk := n4 (sI (n3 []))
abbrev ps : Mk := sS (sS [])
abbrev rs : Mk := sI []
def C (k : Nat) : List (Ent PG R) := [⟨92, H.CompareString.h k, H.CompareString.ok k⟩]
def fn (k : Nat) (x : (BA × BA × U1)) (S : LL) (K : Kt R (Int × U1)) : Option R :=
  H.CompareString.fn k (x.1, x.2.1, ()) S fun r1 S => K (r1.1, ()) S
def en (k : Nat) : Ent PG R := mkFn T_ok Tryz.func58 ps rs (C k) (.seq .auto (.seq .auto (.mask mr .auto))) ⟨tr, tr, tr⟩ (fn k) (by kernel_rfl) (by kernel_rfl) (fun x S K => by kernel_rfl)
end G.strings_Compare
/-! ### 57: smithyard/steps.Joined$1 -/
namespace G.steps_Joined_1
abbrev mr : Mk := n4 (sI (n5 []))
abbrev ps : Mk := sA [.str, .str, .sl 3, jI, .str, .sl 3, .sl 3, jI] (sA [.str, .str, .sl 3, jI, .str, .sl 3, .sl 3, jI] [])
abbrev rs : Mk := sI []
def C (k : Nat) : List (Ent PG R) := [strings_Compare.en k]
def fn (k : Nat) (x : ((BA × BA × LL × Int × BA × LL × LL × Int × U1) × (BA × BA × LL × Int × BA × LL × LL × Int × U1) × U1)) (S : LL) (K : Kt R (Int × U1)) : Option R :=
  strings_Compare.fn k (x.1.1, x.2.1.1, ()) S fun r1 S => K (r1.1, ()) S
def en (k : Nat) : Ent PG R := mkFn T_ok Tryz.func57 ps rs (C k) (.seq .auto (.seq .auto (.mask mr .auto))) ⟨tr, tr, tr⟩ (fn k) (by kernel_rfl) (by kernel_rfl) (fun x S K => by kernel_rfl)
end G.steps_Joined_1
/-! ### 115: slices.insertionSortCmpFunc[smithyard/api.Memory] -/
namespace G.slices_insertionSortCmpFunc_api_Memory_at_steps_Joined_1
abbrev c0 : Mk := sh (.lf (.raw)) (sI (sI (sh (.fn 57 []) (n4 (sI (sI (nX (nX (nX (nX (n3 [])))))))))))
abbrev z0 : Mk := sh (.lf (.raw)) (sI (sI (sh (.fn 57 []) (n4 (sI (sI (nX (nX (nX (nX (n3 [])))))))))))
abbrev e0 : Mk := nX (nX (nX (nX (nX (n3 [])))))
abbrev e2 : Mk := sh (.lf (.raw)) (sI (sI (sh (.fn 57 []) (n4 (sI (nX (nX (nX (nX (n4 []))))))))))
abbrev m0 : Mk := sh (.lf (.raw)) (sI (sI (sh (.fn 57 []) (n4 (sI (nX (nX (nX (nX (n4 []))))))))))
abbrev m1 : Mk := sh (.lf (.raw)) (sI (sI (sh (.fn 57 []) (n4 (sI (sI (nX (nX (nX (nX (n3 [])))))))))))
abbrev ps : Mk := sh (.lf (.raw)) (sI (sI (sh (.fn 57 []) [])))
abbrev rs : Mk := []
def C (k : Nat) : List (Ent PG R) := [steps_Joined_1.en k]
def q0 (k : Nat) (Jnrm : Kt R (LV × Int × Int × (U1) × Int × Int × U1))  (x : (LV × Int × Int × (U1) × Int × Int × U1)) (S : LL) : Option R :=
  Jnrm (x.1, x.2.1, x.2.2.1, (()), x.2.2.2.2.1, (IntKind.wrap .i64 (x.2.2.2.2.2.1 - (1 : Int))), ()) S
def Q0 (k : Nat) : Pc PG R (sub (cd Tryz.f115) [tt,ff,ff,tt,ff,ff,tt,ff,ff,tt,tt]) := mkEnd T_ok (C k) _ c0 z0 (.auto) tr (fun x S K => q0 k (fun o S => K .nrm (Qm z0 o S))  x S) (fun x S K => by kernel_rfl)
def b1 (k : Nat) (J2 : Kt R (LV × Int × Int × (U1) × Int × U1)) (rec : Kt R (LV × Int × Int × (U1) × Int × Int × U1)) (x : (LV × Int × Int × (U1) × Int × Int × U1)) (S : LL) : Option R :=
  ifB (decide (x.2.2.2.2.2.1 > x.2.1)) (oslOr (dup x.1) (fun i2 p3 z5 n4 => ifB (Nat.beq z5 8) (idxN n4 x.2.2.2.2.2.1 fun v1 => oslOr (dup x.1) (fun i7 p8 z10 n9 => ifB (Nat.beq z10 8) (idxN n9 (IntKind.wrap .i64 (x.2.2.2.2.2.1 - (1 : Int))) fun v6 => objAt S i2 fun ty c11 => ifB (Nat.ble ((p3 + v1 * z5) + 8) c11.length) (asStr ((c11.map dupL).getD (p3 + v1 * z5) .any) fun s12 => asStr ((c11.map dupL).getD ((p3 + v1 * z5) + 1) .any) fun s13 => asSl 3 ((c11.map dupL).getD (((p3 + v1 * z5) + 1) + 1) .any) fun l14 => asInt .i64 ((c11.map dupL).getD ((((p3 + v1 * z5) + 1) + 1) + 1) .any) fun n15 => asStr ((c11.map dupL).getD (((((p3 + v1 * z5) + 1) + 1) + 1) + 1) .any) fun s16 => asSl 3 ((c11.map dupL).getD ((((((p3 + v1 * z5) + 1) + 1) + 1) + 1) + 1) .any) fun l17 => asSl 3 ((c11.map dupL).getD (((((((p3 + v1 * z5) + 1) + 1) + 1) + 1) + 1) + 1) .any) fun l18 => asInt .i64 ((c11.map dupL).getD ((((((((p3 + v1 * z5) + 1) + 1) + 1) + 1) + 1) + 1) + 1) .any) fun n19 => objAt S i7 fun ty c20 => ifB (Nat.ble ((p8 + v6 * z10) + 8) c20.length) (asStr ((c20.map dupL).getD (p8 + v6 * z10) .any) fun s21 => asStr ((c20.map dupL).getD ((p8 + v6 * z10) + 1) .any) fun s22 => asSl 3 ((c20.map dupL).getD (((p8 + v6 * z10) + 1) + 1) .any) fun l23 => asInt .i64 ((c20.map dupL).getD ((((p8 + v6 * z10) + 1) + 1) + 1) .any) fun n24 => asStr ((c20.map dupL).getD (((((p8 + v6 * z10) + 1) + 1) + 1) + 1) .any) fun s25 => asSl 3 ((c20.map dupL).getD ((((((p8 + v6 * z10) + 1) + 1) + 1) + 1) + 1) .any) fun l26 => asSl 3 ((c20.map dupL).getD (((((((p8 + v6 * z10) + 1) + 1) + 1) + 1) + 1) + 1) .any) fun l27 => asInt .i64 ((c20.map dupL).getD ((((((((p8 + v6 * z10) + 1) + 1) + 1) + 1) + 1) + 1) + 1) .any) fun n28 => steps_Joined_1.fn k ((s12, s13, l14, n15, s16, l17, l18, n19, ()), (s21, s22, l23, n24, s25, l26, l27, n28, ()), ()) S fun r29 S => ifB (decide (r29.1 < (0 : Int))) (oslOr (dup x.1) (fun i31 p32 z34 n33 => ifB (Nat.beq z34 8) (idxN n33 (IntKind.wrap .i64 (x.2.2.2.2.2.1 - (1 : Int))) fun v30 => oslOr (dup x.1) (fun i36 p37 z39 n38 => ifB (Nat.beq z39 8) (idxN n38 x.2.2.2.2.2.1 fun v35 => objAt S i31 fun ty c40 => ifB (Nat.ble ((p32 + v30 * z34) + 8) c40.length) (asStr ((c40.map dupL).getD (p32 + v30 * z34) .any) fun s41 => asStr ((c40.map dupL).getD ((p32 + v30 * z34) + 1) .any) fun s42 => asSl 3 ((c40.map dupL).getD (((p32 + v30 * z34) + 1) + 1) .any) fun l43 => asInt .i64 ((c40.map dupL).getD ((((p32 + v30 * z34) + 1) + 1) + 1) .any) fun n44 => asStr ((c40.map dupL).getD (((((p32 + v30 * z34) + 1) + 1) + 1) + 1) .any) fun s45 => asSl 3 ((c40.map dupL).getD ((((((p32 + v30 * z34) + 1) + 1) + 1) + 1) + 1) .any) fun l46 => asSl 3 ((c40.map dupL).getD (((((((p32 + v30 * z34) + 1) + 1) + 1) + 1) + 1) + 1) .any) fun l47 => asInt .i64 ((c40.map dupL).getD ((((((((p32 + v30 * z34) + 1) + 1) + 1) + 1) + 1) + 1) + 1) .any) fun n48 => objAt S i36 fun ty c49 => ifB (Nat.ble ((p37 + v35 * z39) + 8) c49.length) (asStr ((c49.map dupL).getD (p37 + v35 * z39) .any) fun s50 => asStr ((c49.map dupL).getD ((p37 + v35 * z39) + 1) .any) fun s51 => asSl 3 ((c49.map dupL).getD (((p37 + v35 * z39) + 1) + 1) .any) fun l52 => asInt .i64 ((c49.map dupL).getD ((((p37 + v35 * z39) + 1) + 1) + 1) .any) fun n53 => asStr ((c49.map dupL).getD (((((p37 + v35 * z39) + 1) + 1) + 1) + 1) .any) fun s54 => asSl 3 ((c49.map dupL).getD ((((((p37 + v35 * z39) + 1) + 1) + 1) + 1) + 1) .any) fun l55 => asSl 3 ((c49.map dupL).getD (((((((p37 + v35 * z39) + 1) + 1) + 1) + 1) + 1) + 1) .any) fun l56 => asInt .i64 ((c49.map dupL).getD ((((((((p37 + v35 * z39) + 1) + 1) + 1) + 1) + 1) + 1) + 1) .any) fun n57 => oslOr (dup x.1) (fun i59 p60 z62 n61 => ifB (Nat.beq z62 8) (idxN n61 x.2.2.2.2.2.1 fun v58 => objAt S i59 fun ty c63 => stO c63 (p60 + v58 * z62) [(.str s41), (.str s42), (.sl 3 l43), (.int .i64 n44), (.str s45), (.sl 3 l46), (.sl 3 l47), (.int .i64 n48)] fun c64 => setS (S.set i59 (ty c64)) fun S => oslOr (dup x.1) (fun i66 p67 z69 n68 => ifB (Nat.beq z69 8) (idxN n68 (IntKind.wrap .i64 (x.2.2.2.2.2.1 - (1 : Int))) fun v65 => objAt S i66 fun ty c70 => stO c70 (p67 + v65 * z69) [(.str s50), (.str s51), (.sl 3 l52), (.int .i64 n53), (.str s54), (.sl 3 l55), (.sl 3 l56), (.int .i64 n57)] fun c71 => setS (S.set i66 (ty c71)) fun S => q0 k (fun o72 S => rec (o72.1, o72.2.1, o72.2.2.1, (()), o72.2.2.2.2.1, o72.2.2.2.2.2.1, ()) S) (x.1, x.2.1, x.2.2.1, (()), x.2.2.2.2.1, x.2.2.2.2.2.1, ()) S) none) none) none) none) none) none) none) none) none) none) (J2 (x.1, x.2.1, x.2.2.1, (()), x.2.2.2.2.1, ()) S)) none) none) none) none) none) none) (J2 (x.1, x.2.1, x.2.2.1, (()), x.2.2.2.2.1, ()) S)
def L1 (k : Nat) : Pc PG R (.loop (sub (cd Tryz.f115) [tt,ff,ff,tt,ff,ff,tt,ff,ff])) := mkLoop T_ok (C k) _ m1 k (.seq (.seq (.drawn [(5, 2), (7, 1), (8, 1), (9, 2), (12, 1), (13, 1)] [0, 1, 2, 3, 4, 5, 6, 7, 9, 10, 11, 12, 8, 13, 14, 15, 16]) (.cond .auto (.mask e2 .auto))) (.seq (.block (.drawn [(0, 2), (2, 2), (5, 2), (8, 1), (9, 1), (10, 2), (12, 1), (13, 1), (14, 1), (15, 1), (16, 1), (17, 1)] [0, 1, 2, 3, 4, 5, 6, 7, 8, 10, 11, 12, 9, 13, 14, 15, 16, 17])) (.piece (Q0 k).h))) ⟨⟨(drawn_an (by kernel_rfl)), tr, tr⟩, (drawn_an (by kernel_rfl)), (Q0 k).ok⟩ (fun K => b1 k (fun o S => K (.ext 2) (Qm e2 o S))) (fun K rec x S => by kernel_rfl)
def b0 (k : Nat) (J0 : Kt R (U1)) (rec : Kt R (LV × Int × Int × (U1) × Int × U1)) (x : (LV × Int × Int × (U1) × Int × U1)) (S : LL) : Option R :=
  ifB (decide (x.2.2.2.2.1 < x.2.2.1)) (rounds (b1 k (fun o73 S => rec (o73.1, o73.2.1, o73.2.2.1, (()), (IntKind.wrap .i64 (o73.2.2.2.2.1 + (1 : Int))), ()) S)) k (x.1, x.2.1, x.2.2.1, (()), x.2.2.2.2.1, x.2.2.2.2.1, ()) S) (J0 (()) S)
def L0 (k : Nat) : Pc PG R (.loop (sub (cd Tryz.f115) [tt,ff,ff])) := mkLoop T_ok (C k) _ m0 k (.seq (.seq .auto (.cond .auto (.mask e0 .auto))) (.seq (.block (.seq .auto (.block (.piece (L1 k).h)))) .auto)) ⟨⟨tr, tr, tr⟩, ⟨tr, (L1 k).ok⟩, tr⟩ (fun K => b0 k (fun o S => K (.ext 0) (Qm e0 o S))) (fun K rec x S => by kernel_rfl)
def fn (k : Nat) (x : (LV × Int × Int × (U1) × U1)) (S : LL) (K : Kt R (U1)) : Option R :=
  rounds (b0 k (fun o74 S => K (()) S)) k (x.1, x.2.1, x.2.2.1, (()), (IntKind.wrap .i64 (x.2.1 + (1 : Int))), ()) S
def en (k : Nat) : Ent PG R := mkFn T_ok Tryz.func115 ps rs (C k) (.seq .auto (.block (.piece (L0 k).h))) ⟨tr, (L0 k).ok⟩ (fn k) (by kernel_rfl) (by kernel_rfl) (fun x S K => by kernel_rfl)
end G.slices_insertionSortCmpFunc_api_Memory_at_steps_Joined_1
/-! ### 90: slices.pdqsortCmpFunc[smithyard/api.Memory] -/
namespace G.slices_pdqsortCmpFunc_api_Memory_at_steps_Joined_1
abbrev m0 : Mk := sh (.lf (.raw)) (sI (sI (sI (sh (.fn 57 []) (n5 (sB (sB (nX (nX (nX (nX (nX (nX (nX (nX (nX (nX (nX (nX (nX (n6 [])))))))))))))))))))))
abbrev mr : Mk := nX (nX (nX (nX (nX (nX (nX (nX (nX (nX (nX (nX (nX (nX (n8 []))))))))))))))
abbrev ps : Mk := sh (.lf (.raw)) (sI (sI (sI (sh (.fn 57 []) []))))
abbrev rs : Mk := []
def C (k : Nat) : List (Ent PG R) := [slices_insertionSortCmpFunc_api_Memory_at_steps_Joined_1.en k]
def b0 (k : Nat) (Jret : Kt R (U1)) (rec : Kt R (LV × Int × Int × Int × (U1) × Bool × Bool × U1)) (x : (LV × Int × Int × Int × (U1) × Bool × Bool × U1)) (S : LL) : Option R :=
  ifB (decide ((IntKind.wrap .i64 (x.2.2.1 - x.2.1)) ≤ (12 : Int))) (slices_insertionSortCmpFunc_api_Memory_at_steps_Joined_1.fn k ((dup x.1), x.2.1, x.2.2.1, (()), ()) S fun r1 S => Jret (()) S) (ifB (x.2.2.2.1 == (0 : Int)) (none) (ifB (!x.2.2.2.2.2.1) (none) (none)))
def L0 (k : Nat) : Pc PG R (.loop (sub (cd Tryz.f90) [tt,tt,ff,ff])) := mkLoop T_ok (C k) _ m0 k (.block (.seq .auto (.seq (.seq .auto (.cond (.seq (.own [(0, 2)]) (.mask mr .auto)) .auto)) (.seq (.seq .auto (.cond (.seq (.own [(0, 2)]) (.mask mr .auto)) .auto)) (.seq (.seq .auto (.cond (.seq (.own [(0, 2)]) .auto) .auto)) (.seq (.own [(0, 2), (5, 1)]) (.seq (.seq .auto (.cond (.seq .auto (.seq .auto .auto)) .auto)) (.seq (.seq .auto (.cond (.seq .auto (.cond (.mask mr .auto) .auto)) .auto)) (.seq (.seq .auto (.cond (.seq .auto (.seq .auto .auto)) .auto)) (.seq .auto (.seq .auto (.seq .auto (.seq .auto (.seq .auto (.cond (.seq .auto (.seq .auto .auto)) (.seq .auto (.seq .auto .auto))))))))))))))))) ⟨tr, ⟨tr, ⟨tr, tr⟩, tr⟩, ⟨tr, ⟨tr, tr⟩, tr⟩, ⟨tr, ⟨tr, tr⟩, tr⟩, tr, ⟨tr, ⟨tr, tr, tr⟩, tr⟩, ⟨tr, ⟨tr, tr, tr⟩, tr⟩, ⟨tr, ⟨tr, tr, tr⟩, tr⟩, tr, tr, tr, tr, tr, ⟨tr, tr, tr⟩, tr, tr, tr⟩ (fun K => b0 k (fun o S => K .ret (Qm mr o S))) (fun K rec x S => by kernel_rfl)
def fn (k : Nat) (x : (LV × Int × Int × Int × (U1) × U1)) (S : LL) (K : Kt R (U1)) : Option R :=
  rounds (b0 k (fun o2 S => K (()) S)) k (x.1, x.2.1, x.2.2.1, x.2.2.2.1, (()), true, true, ()) S
def en (k : Nat) : Ent PG R := mkFn T_ok Tryz.func90 ps rs (C k) (.seq .auto (.seq .auto (.block (.piece (L0 k).h)))) ⟨tr, tr, (L0 k).ok⟩ (fn k) (by kernel_rfl) (by kernel_rfl) (fun x S K => by kernel_rfl)
end G.slices_pdqsortCmpFunc_api_Memory_at_steps_Joined_1
/-! ### 56: slices.SortFunc[[]smithyard/api.Memory,smithyard/api.Memory] -/
namespace G.slices_SortFunc_s_api_Memory_api_Memory_at_steps_Joined_1
abbrev ps : Mk := sh (.lf (.raw)) (sh (.fn 57 []) [])
abbrev rs : Mk := []
def C (k : Nat) : List (Ent PG R) := [slices_pdqsortCmpFunc_api_Memory_at_steps_Joined_1.en k, math_bits_Len.en k]
def fn (k : Nat) (x : (LV × (U1) × U1)) (S : LL) (K : Kt R (U1)) : Option R :=
  lenO (dup x.1) fun n1 => math_bits_Len.fn k ((IntKind.wrap .u64 (n1 : Int)), ()) S fun r2 S => slices_pdqsortCmpFunc_api_Memory_at_steps_Joined_1.fn k ((dup x.1), (0 : Int), (n1 : Int), r2.1, (()), ()) S fun r3 S => K (()) S
def en (k : Nat) : Ent PG R := mkFn T_ok Tryz.func56 ps rs (C k) (.seq (.own [(0, 2), (1, 1)]) (.own [(0, 2)])) ⟨tr, tr⟩ (fn k) (by kernel_rfl) (by kernel_rfl) (fun x S K => by kernel_rfl)
end G.slices_SortFunc_s_api_Memory_api_Memory_at_steps_Joined_1
/-! ### 26: smithyard/steps.Joined -/
namespace G.steps_Joined
abbrev e0 : Mk := sh (.lf (.raw)) (sh (.lf (.raw)) (n6 (sh (.lf (.map)) (nX (nX (nX (nX (nX (n1 [])))))))))
abbrev e2 : Mk := nX (n1 (sh (.lf (.raw)) (nX (nX (nX (nX (n8 [])))))))
abbrev m0 : Mk := sh (.lf (.raw)) (sh (.lf (.raw)) (n6 (sh (.lf (.map)) (nX (n6 (sh (.lf (.raw)) (sI (sI (nX (nX (nX (n2 []))))))))))))
abbrev m1 : Mk := n8 (sh (.lf (.map)) (n2 (sh (.lf (.raw)) (nX (nX (n6 (sh (.lf (.raw)) (sI (sI (nX (n9 [])))))))))))
abbrev mr : Mk := n4 (sL 8 (sI (nX (nX (nX (nX (nX (n4 []))))))))
abbrev ps : Mk := sh (.lf (.raw)) (sh (.lf (.raw)) [])
abbrev rs : Mk := sL 8 (sI [])
def C (k : Nat) : List (Ent PG R) := [steps_CheckMemory.en k, steps_own.en k, slices_SortFunc_s_api_Memory_api_Memory_at_steps_Joined_1.en k]
def b1 (k : Nat) (J2 : Kt R (LV × U1)) (rec : Kt R (Nat × LV × LV × Int × Int × U1)) (x : (Nat × LV × LV × Int × Int × U1)) (S : LL) : Option R :=
  ifB (decide (x.2.2.2.2.1 < x.2.2.2.1)) (oslOr x.2.2.1 (fun i27 p28 z30 n29 => ifB (Nat.beq z30 8) (idxN n29 x.2.2.2.2.1 fun v26 => objAt S i27 fun ty c31 => ifB (Nat.ble ((p28 + v26 * z30) + 8) c31.length) (asStr ((c31.map dupL).getD (p28 + v26 * z30) .any) fun s32 => asStr ((c31.map dupL).getD ((p28 + v26 * z30) + 1) .any) fun s33 => asSl 3 ((c31.map dupL).getD (((p28 + v26 * z30) + 1) + 1) .any) fun l34 => asInt .i64 ((c31.map dupL).getD ((((p28 + v26 * z30) + 1) + 1) + 1) .any) fun n35 => asStr ((c31.map dupL).getD (((((p28 + v26 * z30) + 1) + 1) + 1) + 1) .any) fun s36 => asSl 3 ((c31.map dupL).getD ((((((p28 + v26 * z30) + 1) + 1) + 1) + 1) + 1) .any) fun l37 => asSl 3 ((c31.map dupL).getD (((((((p28 + v26 * z30) + 1) + 1) + 1) + 1) + 1) + 1) .any) fun l38 => asInt .i64 ((c31.map dupL).getD ((((((((p28 + v26 * z30) + 1) + 1) + 1) + 1) + 1) + 1) + 1) .any) fun n39 => mpAt S x.1 .str fun m40 => asBool ((mapGet m40 (.str s32)).getD (.bool false)) fun b41 => ifB (!b41) (appO 62 8 136 S x.2.1 [(.agg [(.str s32), (.str s33), (.sl 3 l34), (.int .i64 n35), (.str s36), (.sl 3 l37), (.sl 3 l38), (.int .i64 n39)])] fun v43 S => rec (x.1, v43, x.2.2.1, x.2.2.2.1, (IntKind.wrap .i64 (x.2.2.2.2.1 + (1 : Int))), ()) S) (rec (x.1, x.2.1, x.2.2.1, x.2.2.2.1, (IntKind.wrap .i64 (x.2.2.2.2.1 + (1 : Int))), ()) S)) none) none) none) (J2 (x.2.1, ()) S)
def L1 (k : Nat) : Pc PG R (.loop (sub (cd Tryz.f26) [tt,tt,tt,tt,tt,tt,ff,tt,ff,ff])) := mkLoop T_ok (C k) _ m1 k (.seq .auto (.seq (.cond .auto (.mask e2 .auto)) (.seq (.block (.seq (.own [(0, 1), (1, 1)]) (.seq .auto (.cond (.own [(0, 1), (3, 1)]) .auto)))) .auto))) ⟨tr, ⟨tr, tr⟩, ⟨tr, tr, tr, tr⟩, tr⟩ (fun K => b1 k (fun o S => K (.ext 2) (Qm e2 o S))) (fun K rec x S => by kernel_rfl)
def b0 (k : Nat) (J0 : Kt R (LV × LV × Nat × U1)) (rec : Kt R (LV × LV × Nat × LV × Int × Int × U1)) (x : (LV × LV × Nat × LV × Int × Int × U1)) (S : LL) : Option R :=
  ifB (decide (x.2.2.2.2.2.1 < x.2.2.2.2.1)) (oslOr x.2.2.2.1 (fun i8 p9 z11 n10 => ifB (Nat.beq z11 8) (idxN n10 x.2.2.2.2.2.1 fun v7 => objAt S i8 fun ty c12 => ifB (Nat.ble ((p9 + v7 * z11) + 8) c12.length) (asStr ((c12.map dupL).getD (p9 + v7 * z11) .any) fun s13 => asStr ((c12.map dupL).getD ((p9 + v7 * z11) + 1) .any) fun s14 => asSl 3 ((c12.map dupL).getD (((p9 + v7 * z11) + 1) + 1) .any) fun l15 => asInt .i64 ((c12.map dupL).getD ((((p9 + v7 * z11) + 1) + 1) + 1) .any) fun n16 => asStr ((c12.map dupL).getD (((((p9 + v7 * z11) + 1) + 1) + 1) + 1) .any) fun s17 => asSl 3 ((c12.map dupL).getD ((((((p9 + v7 * z11) + 1) + 1) + 1) + 1) + 1) .any) fun l18 => asSl 3 ((c12.map dupL).getD (((((((p9 + v7 * z11) + 1) + 1) + 1) + 1) + 1) + 1) .any) fun l19 => asInt .i64 ((c12.map dupL).getD ((((((((p9 + v7 * z11) + 1) + 1) + 1) + 1) + 1) + 1) + 1) .any) fun n20 => mpAt S x.2.2.1 .str fun m21 => setS (S.set x.2.2.1 (.mp .str (mapPut m21 (.str s13) (.bool true)))) fun S => rec (x.1, x.2.1, x.2.2.1, x.2.2.2.1, x.2.2.2.2.1, (IntKind.wrap .i64 (x.2.2.2.2.2.1 + (1 : Int))), ()) S) none) none) none) (J0 (x.1, x.2.1, x.2.2.1, ()) S)
def L0 (k : Nat) : Pc PG R (.loop (sub (cd Tryz.f26) [tt,tt,tt,tt,ff,tt,ff,ff])) := mkLoop T_ok (C k) _ m0 k (.seq .auto (.seq (.cond .auto (.mask e0 .auto)) (.seq (.block (.seq (.own [(0, 1), (1, 1)]) .auto)) .auto))) ⟨tr, ⟨tr, tr⟩, ⟨tr, tr⟩, tr⟩ (fun K => b0 k (fun o S => K (.ext 0) (Qm e0 o S))) (fun K rec x S => by kernel_rfl)
def fn0 (k : Nat) (x : (LV × LV × U1)) (S : LL) (K : Kt R (LL × Int × U1)) : Option R :=
  asSl 8 x.1 fun l1 => steps_CheckMemory.fn k (l1, ()) S fun r2 S => ifB (r2.1 != (0 : Int)) (K ([], r2.1, ()) S) (asSl 8 x.2.1 fun l3 => steps_CheckMemory.fn k (l3, ()) S fun r4 S => ifB (r4.1 != (0 : Int)) (K ([], r4.1, ()) S) (newObj S (.mp .str []) fun i5 S => lenO (dup x.1) fun n6 => rounds (b0 k (fun o22 S => steps_own.fn k ((dup o22.1), ()) S fun r23 S => steps_own.fn k ((dup o22.2.1), ()) S fun r24 S => lenO r24.1 fun n25 => rounds (b1 k (fun o44 S => lenO (dup o44.1) fun n45 => ifB (decide ((n45 : Int) > (500 : Int))) (K ([], (2 : Int), ()) S) (slices_SortFunc_s_api_Memory_api_Memory_at_steps_Joined_1.fn k ((dup o44.1), (()), ()) S fun r46 S => frzO 8 o44.1 S fun c47 S => K (c47, (0 : Int), ()) S))) k (o22.2.2.1, r23.1, r24.1, (n25 : Int), (0 : Int), ()) S)) k (x.1, x.2.1, i5, (dup x.1), (n6 : Int), (0 : Int), ()) S))
def en0 (k : Nat) : Ent PG R := mkFn T_ok Tryz.func26 ps rs (C k) (.seq .auto (.seq (.seq (.own [(0, 10)]) (.seq .auto (.cond (.seq .auto (.mask mr .auto)) .auto))) (.seq (.seq (.own [(0, 10)]) (.seq .auto (.cond (.seq .auto (.mask mr .auto)) .auto))) (.seq .auto (.seq (.seq (.own [(0, 2), (1, 1)]) (.block (.piece (L0 k).h))) (.seq (.own [(0, 2)]) (.seq (.seq (.own [(0, 2), (2, 1)]) (.block (.piece (L1 k).h))) (.seq (.seq (.own [(0, 2), (1, 1)]) (.cond (.seq .auto (.mask mr .auto)) .auto)) (.seq (.own [(0, 2)]) (.seq (.own [(0, 1)]) (.frr 4 8 (.mask mr .auto)))))))))))) ⟨tr, ⟨tr, tr, ⟨tr, tr⟩, tr⟩, ⟨tr, tr, ⟨tr, tr⟩, tr⟩, tr, ⟨tr, (L0 k).ok⟩, tr, ⟨tr, (L1 k).ok⟩, ⟨tr, ⟨tr, tr⟩, tr⟩, tr, tr, tr⟩ (fn0 k) (by kernel_rfl) (by kernel_rfl) (fun x S K => by kernel_rfl)
def fn (k : Nat) (x : (LV × LV × U1)) (S : LL) (K : Kt R (LL × Int × U1)) : Option R := popK rs 6 S (fn0 k x S fun r S => some (resE rs r, S)) K
def en (k : Nat) : Ent PG R := mkPop (rs := rs) (en0 k).ok
end G.steps_Joined
/-! ### 8: smithyard/smithyardlaw6.awake -/
namespace G.smithyardlaw6_awake
abbrev mr : Mk := sB (nX (nX (n2 [])))
abbrev ps : Mk := []
abbrev rs : Mk := sB []
def C (k : Nat) : List (Ent PG R) := [steps_Joined.en k]
def fn (k : Nat) (x : (U1)) (S : LL) (K : Kt R (Bool × U1)) : Option R :=
  steps_Joined.fn k (.nilsl, (.own 62 8 [(.agg [(.str (bs [97])), (.str (bs [48, 49, 50, 51, 52, 53, 54, 55, 56, 57, 97, 98, 99, 100, 101, 102])), .nilsl, (.int .i64 (0 : Int)), (.str (bs [])), .nilsl, .nilsl, (.int .i64 (0 : Int))])]), ()) S fun r1 S => ifB (r1.2.1 == (0 : Int)) (ifB ((r1.1.length : Int) == (1 : Int)) (idxL r1.1 (0 : Int) fun v2 => asStr (leaf v2 0) fun s3 => K ((strEq s3 (bs [97])), ()) S) (K (false, ()) S)) (K (false, ()) S)
def en (k : Nat) : Ent PG R := mkFn T_ok Tryz.func8 ps rs (C k) (.seq .auto (.seq (.own [(3, 1)]) (.seq .auto (.mask mr .auto)))) ⟨tr, tr, tr, tr⟩ (fn k) (by kernel_rfl) (by kernel_rfl) (fun x S K => by kernel_rfl)
end G.smithyardlaw6_awake
/-! ### 4: smithyard/smithyardlaw6.StepsRulesMatchSpec -/
namespace G.smithyardlaw6_StepsRulesMatchSpec
abbrev mr : Mk := n2 (sB (nX (nX (nX (nX [])))))
abbrev ps : Mk := sL 8 []
abbrev rs : Mk := sB []
def C (k : Nat) : List (Ent PG R) := [smithyardlaw6_awake.en k, steps_Edges.en k, smithyardref6_CopyRules.en k, smithyardref6_Edges.en k, steps_CheckRules.en k, smithyardref6_CheckRules.en k, slices_Equal_s_api_Edge_api_Edge.en k, smithyardref6_SameRules.en k]
def fn (k : Nat) (x : (LL × U1)) (S : LL) (K : Kt R (Bool × U1)) : Option R :=
  smithyardref6_CopyRules.fn k (x.1, ()) S fun r1 S => steps_Edges.fn k (x.1, ()) S fun r2 S => smithyardref6_Edges.fn k (r1.1, ()) S fun r3 S => steps_CheckRules.fn k (x.1, ()) S fun r4 S => smithyardref6_CheckRules.fn k (r1.1, ()) S fun r5 S => ifB (r4.1 == r5.1) (slices_Equal_s_api_Edge_api_Edge.fn k (r2.1, r3.1, ()) S fun r6 S => ifB r6.1 (ifB (r2.2.1 == r3.2.1) (smithyardref6_SameRules.fn k (x.1, r1.1, ()) S fun r7 S => ifB r7.1 (smithyardlaw6_awake.fn k (()) S fun r8 S => K (r8.1, ()) S) (K (false, ()) S)) (K (false, ()) S)) (K (false, ()) S)) (K (false, ()) S)
def en (k : Nat) : Ent PG R := mkFn T_ok Tryz.func4 ps rs (C k) (.seq .auto (.seq .auto (.seq (.own [(2, 1)]) (.seq (.own [(2, 1)]) (.seq .auto (.mask mr .auto)))))) ⟨tr, tr, tr, tr, tr, tr⟩ (fn k) (by kernel_rfl) (by kernel_rfl) (fun x S K => by kernel_rfl)
end G.smithyardlaw6_StepsRulesMatchSpec
end Go.Lm
end
