/- The functions in their typed form, each with its proof. -/
import Derived.Test.YtefkkflmiabfeaaGreatDoorLmXT
import Derived.Test.YtefkkflmiabfeaaGreatDoorLmK
import Derived.Test.YtefkkflmiabfeaaGreatDoorLmK3
set_option linter.unusedSimpArgs false
set_option maxRecDepth 100000
set_option linter.unusedVariables false
noncomputable section
namespace Go.Lm
open Go.Proofs
variable {R : Type}
/-! ### 17: slices.Clone[[]string,string] -/
namespace G.slices_Clone_s_string_string
abbrev mr : Mk := n2 (sO 9 1 (n5 []))
abbrev ps : Mk := sL 1 []
abbrev rs : Mk := sO 9 1 []
def C (k : Nat) : List (Ent PG R) := []
def fn (k : Nat) (x : (LL × U1)) (S : LL) (K : Kt R (LL × U1)) : Option R :=
  isNil (.sl 1 x.1) fun b1 => ifB (b1 == true) (K ([], ()) S) (app 16 [] x.1 fun l2 => K (l2, ()) S)
def en (k : Nat) : Ent PG R := mkFn T_ok Tryz.func17 ps rs (C k) (.seq .auto (.seq (.seq .auto (.cond (.seq .auto (.mask mr .auto)) .auto)) (.seq .auto (.mask mr .auto)))) ⟨tr, ⟨tr, ⟨tr, tr⟩, tr⟩, tr, tr⟩ (fn k) (by kernel_rfl) (by kernel_rfl) (fun x S K => by kernel_rfl)
def anC : An R := .seq .auto (.seq (.seq .auto (.cond (.seq .auto (.mask mr .auto)) .auto)) (.seq .auto (.mask mr .auto)))
theorem body : HSound PG 17 (lbody T (entC (C (R := R) 0)) anC Tryz.f17) :=
  lbody_ok T_ok (entC_ok _) (fun c hc => by
    have : c = cd Tryz.f17 := by
      have e : Tryz.f17.body = some (cd Tryz.f17) := by kernel_rfl
      rw [e] at hc; cases hc; rfl
    subst this
    exact ⟨tr, ⟨tr, ⟨tr, tr⟩, tr⟩, tr, tr⟩) Tryz.func17 (enters_ok Tryz.func17 (by kernel_rfl) (by kernel_rfl))
end G.slices_Clone_s_string_string
namespace G.slices_Clone_s_string_string_c
abbrev ps : Mk := [some (.lf (.sl 1))]
abbrev rs : Mk := [some (.lf (.own 9 1))]
def fn (_k : Nat) (x : LL × U1) (S : LL) (K : Kt R (LL × U1)) : Option R := handF ps rs (cloneF 16) x S K
theorem ok (k : Nat) : HSound PG 17 (hT (R := R) ps fun x S K => fn k x S fun r S => K (resE rs r) S) :=
  hand_ok (enters_ok Tryz.func17 (by kernel_rfl) (by kernel_rfl)) (ps := ps) (rs := rs) (g := cloneF 16) fun x r S hr => by
    obtain ⟨xs, u⟩ := x
    obtain ⟨rfl, hd⟩ := cloneF_some hr
    refine LCalls.nilCases (fun h => ?_) ?_
    · have h : xs = [] := h
      subst h
      exact slices_Clone_s_string_string.body.calls (by kernel_rfl)
    · exact slices_Clone_s_string_string.body.calls (Eq.trans (b := app 16 [] xs fun l => some (.own 9 1 l, S)) (by kernel_rfl) (by rw [app_at hd]; rfl))
def en (k : Nat) : Ent PG R := ⟨17, _, ok k⟩
end G.slices_Clone_s_string_string_c
/-! ### 59: slices.Clone[[]smithyard/api.Var,smithyard/api.Var] -/
namespace G.slices_Clone_s_api_Var_api_Var
abbrev mr : Mk := n2 (sO 107 2 (n5 []))
abbrev ps : Mk := sL 2 []
abbrev rs : Mk := sO 107 2 []
def C (k : Nat) : List (Ent PG R) := []
def fn (k : Nat) (x : (LL × U1)) (S : LL) (K : Kt R (LL × U1)) : Option R :=
  isNil (.sl 2 x.1) fun b1 => ifB (b1 == true) (K ([], ()) S) (app 32 [] x.1 fun l2 => K (l2, ()) S)
def en (k : Nat) : Ent PG R := mkFn T_ok Tryz.func59 ps rs (C k) (.seq .auto (.seq (.seq .auto (.cond (.seq .auto (.mask mr .auto)) .auto)) (.seq .auto (.mask mr .auto)))) ⟨tr, ⟨tr, ⟨tr, tr⟩, tr⟩, tr, tr⟩ (fn k) (by kernel_rfl) (by kernel_rfl) (fun x S K => by kernel_rfl)
def anC : An R := .seq .auto (.seq (.seq .auto (.cond (.seq .auto (.mask mr .auto)) .auto)) (.seq .auto (.mask mr .auto)))
theorem body : HSound PG 59 (lbody T (entC (C (R := R) 0)) anC Tryz.f59) :=
  lbody_ok T_ok (entC_ok _) (fun c hc => by
    have : c = cd Tryz.f59 := by
      have e : Tryz.f59.body = some (cd Tryz.f59) := by kernel_rfl
      rw [e] at hc; cases hc; rfl
    subst this
    exact ⟨tr, ⟨tr, ⟨tr, tr⟩, tr⟩, tr, tr⟩) Tryz.func59 (enters_ok Tryz.func59 (by kernel_rfl) (by kernel_rfl))
end G.slices_Clone_s_api_Var_api_Var
namespace G.slices_Clone_s_api_Var_api_Var_c
abbrev ps : Mk := [some (.lf (.sl 2))]
abbrev rs : Mk := [some (.lf (.own 107 2))]
def fn (_k : Nat) (x : LL × U1) (S : LL) (K : Kt R (LL × U1)) : Option R := handF ps rs (cloneF 32) x S K
theorem ok (k : Nat) : HSound PG 59 (hT (R := R) ps fun x S K => fn k x S fun r S => K (resE rs r) S) :=
  hand_ok (enters_ok Tryz.func59 (by kernel_rfl) (by kernel_rfl)) (ps := ps) (rs := rs) (g := cloneF 32) fun x r S hr => by
    obtain ⟨xs, u⟩ := x
    obtain ⟨rfl, hd⟩ := cloneF_some hr
    refine LCalls.nilCases (fun h => ?_) ?_
    · have h : xs = [] := h
      subst h
      exact slices_Clone_s_api_Var_api_Var.body.calls (by kernel_rfl)
    · exact slices_Clone_s_api_Var_api_Var.body.calls (Eq.trans (b := app 32 [] xs fun l => some (.own 107 2 l, S)) (by kernel_rfl) (by rw [app_at hd]; rfl))
def en (k : Nat) : Ent PG R := ⟨59, _, ok k⟩
end G.slices_Clone_s_api_Var_api_Var_c
/-! ### 28: smithyard/smithyardref5.CopyAction -/
namespace G.smithyardref5_CopyAction
abbrev e0 : Mk := n1 (sX [.str, .sl 1, .sl 2, .sl 1, .sl 2, jI] (sX [.str, .own 23 1, .own 107 2, .own 9 1, .own 107 2, jI] (sO 23 1 (nX (nX (nX (n2 [])))))))
abbrev m0 : Mk := n1 (sX [.str, .sl 1, .sl 2, .sl 1, .sl 2, jI] (sX [.str, .own 23 1, .own 107 2, .own 9 1, .own 107 2, jI] (sO 23 1 (sI (nX (nX (nX (n1 []))))))))
abbrev mr : Mk := n2 (sX [.str, .sl 1, .sl 2, .sl 1, .sl 2, jI] (nX (nX (nX (n3 [])))))
abbrev ps : Mk := sA [.str, .sl 1, .sl 2, .sl 1, .sl 2, jI] []
abbrev rs : Mk := sA [.str, .sl 1, .sl 2, .sl 1, .sl 2, jI] []
def C (k : Nat) : List (Ent PG R) := [slices_Clone_s_string_string_c.en k, slices_Clone_s_api_Var_api_Var_c.en k]
def b0 (k : Nat) (J0 : Kt R ((BA × LL × LL × LL × LL × Int × U1) × (BA × LL × LL × LL × LL × Int × U1) × LL × U1)) (rec : Kt R ((BA × LL × LL × LL × LL × Int × U1) × (BA × LL × LL × LL × LL × Int × U1) × LL × Int × U1)) (x : ((BA × LL × LL × LL × LL × Int × U1) × (BA × LL × LL × LL × LL × Int × U1) × LL × Int × U1)) (S : LL) : Option R :=
  ifB (decide (x.2.2.2.1 < (x.1.2.1.length : Int))) (idxL x.1.2.1 x.2.2.2.1 fun v1 => asSl 1 (leaf v1 0) fun l2 => slices_Clone_s_string_string_c.fn k (l2, ()) S fun r3 S => app 24 x.2.2.1 [(.sl 1 r3.1)] fun l4 => rec ((x.1.1, x.1.2.1, x.1.2.2.1, x.1.2.2.2.1, x.1.2.2.2.2.1, x.1.2.2.2.2.2.1, ()), (x.2.1.1, x.2.1.2.1, x.2.1.2.2.1, x.2.1.2.2.2.1, x.2.1.2.2.2.2.1, x.2.1.2.2.2.2.2.1, ()), l4, (IntKind.wrap .i64 (x.2.2.2.1 + (1 : Int))), ()) S) (J0 ((x.1.1, x.1.2.1, x.1.2.2.1, x.1.2.2.2.1, x.1.2.2.2.2.1, x.1.2.2.2.2.2.1, ()), (x.2.1.1, x.2.1.2.1, x.2.1.2.2.1, x.2.1.2.2.2.1, x.2.1.2.2.2.2.1, x.2.1.2.2.2.2.2.1, ()), x.2.2.1, ()) S)
def L0 (k : Nat) : Pc PG R (.loop (sub (cd Tryz.f28) [tt,tt,ff,tt,ff,ff])) := mkLoop T_ok (C k) _ m0 k (.seq (.seq .auto (.cond .auto (.mask e0 .auto))) (.seq (.block (.own [(0, 1)])) .auto)) ⟨⟨tr, tr, tr⟩, tr, tr⟩ (fun K => b0 k (fun o S => K (.ext 0) (Qm e0 o S))) (fun K rec x S => by kernel_rfl)
def fn (k : Nat) (x : ((BA × LL × LL × LL × LL × Int × U1) × U1)) (S : LL) (K : Kt R ((BA × LL × LL × LL × LL × Int × U1) × U1)) : Option R :=
  rounds (b0 k (fun o5 S => slices_Clone_s_api_Var_api_Var_c.fn k (o5.1.2.2.1, ()) S fun r6 S => slices_Clone_s_api_Var_api_Var_c.fn k (o5.1.2.2.2.2.1, ()) S fun r7 S => slices_Clone_s_string_string_c.fn k (o5.1.2.2.2.1, ()) S fun r8 S => K ((o5.1.1, o5.2.2.1, r6.1, r8.1, r7.1, o5.1.2.2.2.2.2.1, ()), ()) S)) k ((x.1.1, x.1.2.1, x.1.2.2.1, x.1.2.2.2.1, x.1.2.2.2.2.1, x.1.2.2.2.2.2.1, ()), ((bs []), [], [], [], [], (0 : Int), ()), [], (0 : Int), ()) S
def en (k : Nat) : Ent PG R := mkFn T_ok Tryz.func28 ps rs (C k) (.seq .auto (.seq .auto (.seq (.seq .auto (.block (.piece (L0 k).h))) (.seq (.drawn [] [0, 1, 2, 4, 5, 7, 8, 10, 3, 6, 9, 11, 12, 13, 14, 15, 16, 17]) (.seq .auto (.mask mr .auto)))))) ⟨tr, tr, ⟨tr, (L0 k).ok⟩, (drawn_an (by kernel_rfl)), tr, tr⟩ (fn k) (by kernel_rfl) (by kernel_rfl) (fun x S K => by kernel_rfl)
end G.smithyardref5_CopyAction
/-! ### 11: smithyard/smithyardref6.CopyRules -/
namespace G.smithyardref6_CopyRules
abbrev c0 : Mk := sL 8 (n2 (sO 53 8 (sI (nX (nX (n8 []))))))
abbrev z0 : Mk := sL 8 (n2 (sO 53 8 (sI (nX (nX (n8 []))))))
abbrev e0 : Mk := n3 (sO 53 8 (nX (nX (n9 []))))
abbrev m0 : Mk := sL 8 (n2 (sO 53 8 (sI (nX (nX (n8 []))))))
abbrev mr : Mk := n2 (sO 53 8 (nX (nX (nX []))))
abbrev ps : Mk := sL 8 []
abbrev rs : Mk := sO 53 8 []
def C (k : Nat) : List (Ent PG R) := [slices_Clone_s_string_string_c.en k, smithyardref5_CopyAction.en k]
def q0 (k : Nat) (Jnrm : Kt R (LL × LL × Int × U1))  (x : (LL × LL × Int × U1)) (S : LL) : Option R :=
  Jnrm (x.1, x.2.1, (IntKind.wrap .i64 (x.2.2.1 + (1 : Int))), ()) S
def Q0 (k : Nat) : Pc PG R (sub (cd Tryz.f11) [tt,tt,ff,tt,ff,ff,tt,tt]) := mkEnd T_ok (C k) _ c0 z0 (.auto) tr (fun x S K => q0 k (fun o S => K .nrm (Qm z0 o S))  x S) (fun x S K => by kernel_rfl)
def b0 (k : Nat) (J0 : Kt R (LL × U1)) (rec : Kt R (LL × LL × Int × U1)) (x : (LL × LL × Int × U1)) (S : LL) : Option R :=
  ifB (decide (x.2.2.1 < (x.1.length : Int))) (idxL x.1 x.2.2.1 fun v1 => asStr (leaf v1 0) fun s2 => idxL x.1 x.2.2.1 fun v3 => mat 8 v3 fun c4 => asStr (c4.getD 1 .any) fun s5 => asSl 1 (c4.getD 2 .any) fun l6 => asSl 2 (c4.getD 3 .any) fun l7 => asSl 1 (c4.getD 4 .any) fun l8 => asSl 2 (c4.getD 5 .any) fun l9 => asInt .i64 (c4.getD 6 .any) fun n10 => idxL x.1 x.2.2.1 fun v11 => asSl 1 (leaf v11 7) fun l12 => smithyardref5_CopyAction.fn k ((s5, l6, l7, l8, l9, n10, ()), ()) S fun r13 S => slices_Clone_s_string_string_c.fn k (l12, ()) S fun r14 S => app 160 x.2.1 [(.agg [(.str s2), (.str r13.1.1), (.sl 1 r13.1.2.1), (.sl 2 r13.1.2.2.1), (.sl 1 r13.1.2.2.2.1), (.sl 2 r13.1.2.2.2.2.1), (.int .i64 r13.1.2.2.2.2.2.1), (.sl 1 r14.1)])] fun l15 => q0 k (fun o16 S => rec (o16.1, o16.2.1, o16.2.2.1, ()) S) (x.1, l15, x.2.2.1, ()) S) (J0 (x.2.1, ()) S)
def L0 (k : Nat) : Pc PG R (.loop (sub (cd Tryz.f11) [tt,tt,ff,tt,ff,ff])) := mkLoop T_ok (C k) _ m0 k (.seq (.seq .auto (.cond .auto (.mask e0 .auto))) (.seq (.block (.drawn [(0, 1)] [0, 1, 2, 3, 4, 5, 6, 7, 8, 9, 10, 12, 13, 14, 15, 16, 11, 17, 18, 19, 20, 21])) (.piece (Q0 k).h))) ⟨⟨tr, tr, tr⟩, (drawn_an (by kernel_rfl)), (Q0 k).ok⟩ (fun K => b0 k (fun o S => K (.ext 0) (Qm e0 o S))) (fun K rec x S => by kernel_rfl)
def fn (k : Nat) (x : (LL × U1)) (S : LL) (K : Kt R (LL × U1)) : Option R :=
  rounds (b0 k (fun o17 S => K (o17.1, ()) S)) k (x.1, [], (0 : Int), ()) S
def en (k : Nat) : Ent PG R := mkFn T_ok Tryz.func11 ps rs (C k) (.seq .auto (.seq .auto (.seq (.seq .auto (.block (.piece (L0 k).h))) (.seq (.own [(0, 1)]) (.mask mr .auto))))) ⟨tr, tr, ⟨tr, (L0 k).ok⟩, tr, tr⟩ (fn k) (by kernel_rfl) (by kernel_rfl) (fun x S K => by kernel_rfl)
end G.smithyardref6_CopyRules
/-! ### 65: strings.Split -/
namespace G.strings_Split
abbrev mr : Mk := n4 (sL 1 (n3 []))
abbrev ps : Mk := sS (sS [])
abbrev rs : Mk := sL 1 []
def C (k : Nat) : List (Ent PG R) := [⟨99, H.genSplit.h k, H.genSplit.ok k⟩]
def fn (k : Nat) (x : (BA × BA × U1)) (S : LL) (K : Kt R (LL × U1)) : Option R :=
  H.genSplit.fn k (x.1, x.2.1, (0 : Int), (-1 : Int), ()) S fun r1 S => K (r1.1, ()) S
def en (k : Nat) : Ent PG R := mkFn T_ok Tryz.func65 ps rs (C k) (.seq .auto (.seq .auto (.mask mr .auto))) ⟨tr, tr, tr⟩ (fn k) (by kernel_rfl) (by kernel_rfl) (fun x S K => by kernel_rfl)
end G.strings_Split
/-! ### 134: strings.IndexByte -/
namespace G.strings_IndexByte
abbrev mr : Mk := n4 (sI (n3 []))
abbrev ps : Mk := sS (sh (.lf (.int .u8)) [])
abbrev rs : Mk := sI []
def C (k : Nat) : List (Ent PG R) := [⟨185, H.IndexByte.h k, H.IndexByte.ok k⟩]
def fn (k : Nat) (x : (BA × Int × U1)) (S : LL) (K : Kt R (Int × U1)) : Option R :=
  H.IndexByte.fn k (x.1, x.2.1, ()) S fun r1 S => K (r1.1, ()) S
def en (k : Nat) : Ent PG R := mkFn T_ok Tryz.func134 ps rs (C k) (.seq .auto (.seq .auto (.mask mr .auto))) ⟨tr, tr, tr⟩ (fn k) (by kernel_rfl) (by kernel_rfl) (fun x S K => by kernel_rfl)
end G.strings_IndexByte
/-! ### 100: smithyard/blob.inPart -/
namespace G.blob_inPart
abbrev mr : Mk := n2 (sB (nX (nX (n7 []))))
abbrev ps : Mk := sh (.lf (.int .u8)) []
abbrev rs : Mk := sB []
def C (k : Nat) : List (Ent PG R) := [strings_IndexByte.en k]
def fn (k : Nat) (x : (Int × U1)) (S : LL) (K : Kt R (Bool × U1)) : Option R :=
  ifB (decide (x.1 ≥ (97 : Int))) (ifB (decide (x.1 ≤ (122 : Int))) (K (true, ()) S) (ifB (decide (x.1 ≥ (65 : Int))) (ifB (decide (x.1 ≤ (90 : Int))) (K (true, ()) S) (ifB (decide (x.1 ≥ (48 : Int))) (ifB (decide (x.1 ≤ (57 : Int))) (K (true, ()) S) (strings_IndexByte.fn k ((bs [46, 95, 45, 43]), x.1, ()) S fun r1 S => K ((decide (r1.1 ≥ (0 : Int))), ()) S)) (strings_IndexByte.fn k ((bs [46, 95, 45, 43]), x.1, ()) S fun r2 S => K ((decide (r2.1 ≥ (0 : Int))), ()) S))) (ifB (decide (x.1 ≥ (48 : Int))) (ifB (decide (x.1 ≤ (57 : Int))) (K (true, ()) S) (strings_IndexByte.fn k ((bs [46, 95, 45, 43]), x.1, ()) S fun r3 S => K ((decide (r3.1 ≥ (0 : Int))), ()) S)) (strings_IndexByte.fn k ((bs [46, 95, 45, 43]), x.1, ()) S fun r4 S => K ((decide (r4.1 ≥ (0 : Int))), ()) S)))) (ifB (decide (x.1 ≥ (65 : Int))) (ifB (decide (x.1 ≤ (90 : Int))) (K (true, ()) S) (ifB (decide (x.1 ≥ (48 : Int))) (ifB (decide (x.1 ≤ (57 : Int))) (K (true, ()) S) (strings_IndexByte.fn k ((bs [46, 95, 45, 43]), x.1, ()) S fun r5 S => K ((decide (r5.1 ≥ (0 : Int))), ()) S)) (strings_IndexByte.fn k ((bs [46, 95, 45, 43]), x.1, ()) S fun r6 S => K ((decide (r6.1 ≥ (0 : Int))), ()) S))) (ifB (decide (x.1 ≥ (48 : Int))) (ifB (decide (x.1 ≤ (57 : Int))) (K (true, ()) S) (strings_IndexByte.fn k ((bs [46, 95, 45, 43]), x.1, ()) S fun r7 S => K ((decide (r7.1 ≥ (0 : Int))), ()) S)) (strings_IndexByte.fn k ((bs [46, 95, 45, 43]), x.1, ()) S fun r8 S => K ((decide (r8.1 ≥ (0 : Int))), ()) S)))
def en (k : Nat) : Ent PG R := mkFn T_ok Tryz.func100 ps rs (C k) (.seq .auto (.seq .auto (.mask mr .auto))) ⟨tr, tr, tr⟩ (fn k) (by kernel_rfl) (by kernel_rfl) (fun x S K => by kernel_rfl)
end G.blob_inPart
/-! ### 66: smithyard/blob.isPart -/
namespace G.blob_isPart
abbrev e0 : Mk := sS (nX (nX (n4 [])))
abbrev m0 : Mk := sS (n4 (sI (sI (nX (n8 [])))))
abbrev mr : Mk := n2 (sB (nX (nX (n2 []))))
abbrev ps : Mk := sS []
abbrev rs : Mk := sB []
def C (k : Nat) : List (Ent PG R) := [blob_inPart.en k]
def b0 (k : Nat) (J0 : Kt R (BA × U1)) (Jret : Kt R (Bool × U1)) (rec : Kt R (BA × Int × Int × U1)) (x : (BA × Int × Int × U1)) (S : LL) : Option R :=
  ifB (decide (x.2.2.1 < x.2.1)) (idxStr x.1 x.2.2.1 fun c1 => blob_inPart.fn k (c1, ()) S fun r2 S => ifB (!r2.1) (Jret (false, ()) S) (rec (x.1, x.2.1, (IntKind.wrap .i64 (x.2.2.1 + (1 : Int))), ()) S)) (J0 (x.1, ()) S)
def L0 (k : Nat) : Pc PG R (.loop (sub (cd Tryz.f66) [tt,ff,tt,ff,ff])) := mkLoop T_ok (C k) _ m0 k (.seq .auto (.seq (.cond .auto (.mask e0 .auto)) (.seq (.block (.seq .auto (.seq .auto (.cond (.seq .auto (.mask mr .auto)) .auto)))) .auto))) ⟨tr, ⟨tr, tr⟩, ⟨tr, tr, ⟨tr, tr⟩, tr⟩, tr⟩ (fun K => b0 k (fun o S => K (.ext 0) (Qm e0 o S)) (fun o S => K .ret (Qm mr o S))) (fun K rec x S => by kernel_rfl)
def fn (k : Nat) (x : (BA × U1)) (S : LL) (K : Kt R (Bool × U1)) : Option R :=
  rounds (b0 k (fun o3 S => ifB (!(strEq o3.1 (bs []))) (ifB (!(strEq o3.1 (bs [46]))) (K ((!(strEq o3.1 (bs [46, 46]))), ()) S) (K (false, ()) S)) (K (false, ()) S)) (fun o4 S => K (o4.1, ()) S)) k (x.1, (x.1.size : Int), (0 : Int), ()) S
def en (k : Nat) : Ent PG R := mkFn T_ok Tryz.func66 ps rs (C k) (.seq .auto (.seq (.seq .auto (.block (.piece (L0 k).h))) (.seq .auto (.mask mr .auto)))) ⟨tr, ⟨tr, (L0 k).ok⟩, tr, tr⟩ (fn k) (by kernel_rfl) (by kernel_rfl) (fun x S K => by kernel_rfl)
end G.blob_isPart
/-! ### 35: smithyard/blob.IsPath -/
namespace G.blob_IsPath
abbrev e0 : Mk := nX (nX (n4 []))
abbrev m0 : Mk := nX (n4 (sL 1 (sI (sI (n7 [])))))
abbrev mr : Mk := n2 (sB (nX (nX (n1 []))))
abbrev ps : Mk := sS []
abbrev rs : Mk := sB []
def C (k : Nat) : List (Ent PG R) := [strings_Split.en k, blob_isPart.en k]
def b0 (k : Nat) (J0 : Kt R (U1)) (Jret : Kt R (Bool × U1)) (rec : Kt R (LL × Int × Int × U1)) (x : (LL × Int × Int × U1)) (S : LL) : Option R :=
  ifB (decide (x.2.2.1 < x.2.1)) (idxL x.1 x.2.2.1 fun v2 => asStr (leaf v2 0) fun s3 => blob_isPart.fn k (s3, ()) S fun r4 S => ifB (!r4.1) (Jret (false, ()) S) (rec (x.1, x.2.1, (IntKind.wrap .i64 (x.2.2.1 + (1 : Int))), ()) S)) (J0 (()) S)
def L0 (k : Nat) : Pc PG R (.loop (sub (cd Tryz.f35) [tt,tt,ff,tt,ff,ff])) := mkLoop T_ok (C k) _ m0 k (.seq .auto (.seq (.cond .auto (.mask e0 .auto)) (.seq (.block (.seq .auto (.seq .auto (.cond (.seq .auto (.mask mr .auto)) .auto)))) .auto))) ⟨tr, ⟨tr, tr⟩, ⟨tr, tr, ⟨tr, tr⟩, tr⟩, tr⟩ (fun K => b0 k (fun o S => K (.ext 0) (Qm e0 o S)) (fun o S => K .ret (Qm mr o S))) (fun K rec x S => by kernel_rfl)
def fn (k : Nat) (x : (BA × U1)) (S : LL) (K : Kt R (Bool × U1)) : Option R :=
  ifB (decide ((x.1.size : Int) < (1 : Int))) (K (false, ()) S) (ifB (decide ((x.1.size : Int) > (200 : Int))) (K (false, ()) S) (strings_Split.fn k (x.1, (bs [47]), ()) S fun r1 S => rounds (b0 k (fun o5 S => K (true, ()) S) (fun o6 S => K (o6.1, ()) S)) k (r1.1, (r1.1.length : Int), (0 : Int), ()) S))
def en (k : Nat) : Ent PG R := mkFn T_ok Tryz.func35 ps rs (C k) (.seq .auto (.seq (.seq .auto (.cond (.seq .auto (.mask mr .auto)) .auto)) (.seq (.seq .auto (.block (.piece (L0 k).h))) (.seq .auto (.mask mr .auto))))) ⟨tr, ⟨tr, ⟨tr, tr⟩, tr⟩, ⟨tr, (L0 k).ok⟩, tr, tr⟩ (fn k) (by kernel_rfl) (by kernel_rfl) (fun x S K => by kernel_rfl)
end G.blob_IsPath
/-! ### 83: smithyard/blob.IsDigest -/
namespace G.blob_IsDigest
abbrev mr : Mk := n2 (sB (n8 []))
abbrev ps : Mk := sS []
abbrev rs : Mk := sB []
def C (k : Nat) : List (Ent PG R) := [⟨109, H.Trim.h k, H.Trim.ok k⟩]
def fn (k : Nat) (x : (BA × U1)) (S : LL) (K : Kt R (Bool × U1)) : Option R :=
  ifB ((x.1.size : Int) == (16 : Int)) (H.Trim.fn k (x.1, (bs [48, 49, 50, 51, 52, 53, 54, 55, 56, 57, 97, 98, 99, 100, 101, 102]), ()) S fun r1 S => K ((strEq r1.1 (bs [])), ()) S) (K (false, ()) S)
def en (k : Nat) : Ent PG R := mkFn T_ok Tryz.func83 ps rs (C k) (.seq .auto (.seq .auto (.mask mr .auto))) ⟨tr, tr, tr⟩ (fn k) (by kernel_rfl) (by kernel_rfl) (fun x S K => by kernel_rfl)
end G.blob_IsDigest
/-! ### 145: smithyard/action.isWord -/
namespace G.action_isWord
abbrev e0 : Mk := sS (nX (nX (n7 [])))
abbrev m0 : Mk := sS (n4 (sI (sI (nX (nX (n1 []))))))
abbrev mr : Mk := n2 (sB (nX (nX (n5 []))))
abbrev ps : Mk := sS []
abbrev rs : Mk := sB []
def C (k : Nat) : List (Ent PG R) := []
def b0 (k : Nat) (J0 : Kt R (BA × U1)) (Jret : Kt R (Bool × U1)) (rec : Kt R (BA × Int × Int × U1)) (x : (BA × Int × Int × U1)) (S : LL) : Option R :=
  ifB (decide (x.2.2.1 < x.2.1)) (idxStr x.1 x.2.2.1 fun c1 => ifB (decide (c1 < (33 : Int))) (Jret (false, ()) S) (idxStr x.1 x.2.2.1 fun c2 => ifB (decide (c2 > (126 : Int))) (Jret (false, ()) S) (rec (x.1, x.2.1, (IntKind.wrap .i64 (x.2.2.1 + (1 : Int))), ()) S))) (J0 (x.1, ()) S)
def L0 (k : Nat) : Pc PG R (.loop (sub (cd Tryz.f145) [tt,ff,tt,ff,ff])) := mkLoop T_ok (C k) _ m0 k (.seq .auto (.seq (.cond .auto (.mask e0 .auto)) (.seq (.block (.seq .auto (.seq .auto (.cond (.seq .auto (.mask mr .auto)) .auto)))) .auto))) ⟨tr, ⟨tr, tr⟩, ⟨tr, tr, ⟨tr, tr⟩, tr⟩, tr⟩ (fun K => b0 k (fun o S => K (.ext 0) (Qm e0 o S)) (fun o S => K .ret (Qm mr o S))) (fun K rec x S => by kernel_rfl)
def fn (k : Nat) (x : (BA × U1)) (S : LL) (K : Kt R (Bool × U1)) : Option R :=
  rounds (b0 k (fun o3 S => ifB (decide ((o3.1.size : Int) ≥ (1 : Int))) (K ((decide ((o3.1.size : Int) ≤ (300 : Int))), ()) S) (K (false, ()) S)) (fun o4 S => K (o4.1, ()) S)) k (x.1, (x.1.size : Int), (0 : Int), ()) S
def en (k : Nat) : Ent PG R := mkFn T_ok Tryz.func145 ps rs (C k) (.seq .auto (.seq (.seq .auto (.block (.piece (L0 k).h))) (.seq .auto (.mask mr .auto)))) ⟨tr, ⟨tr, (L0 k).ok⟩, tr, tr⟩ (fn k) (by kernel_rfl) (by kernel_rfl) (fun x S K => by kernel_rfl)
end G.action_isWord
/-! ### 144: smithyard/action.checkCommand$1 -/
namespace G.action_checkCommand_1
abbrev mr : Mk := n2 (sB (n3 []))
abbrev ps : Mk := sS []
abbrev rs : Mk := sB []
def C (k : Nat) : List (Ent PG R) := [action_isWord.en k]
def fn (k : Nat) (x : (BA × U1)) (S : LL) (K : Kt R (Bool × U1)) : Option R :=
  action_isWord.fn k (x.1, ()) S fun r1 S => K ((!r1.1), ()) S
def en (k : Nat) : Ent PG R := mkFn T_ok Tryz.func144 ps rs (C k) (.seq .auto (.seq .auto (.mask mr .auto))) ⟨tr, tr, tr⟩ (fn k) (by kernel_rfl) (by kernel_rfl) (fun x S K => by kernel_rfl)
end G.action_checkCommand_1
/-! ### 67: slices.IndexFunc[[]string,string] -/
namespace G.slices_IndexFunc_s_string_string_at_action_checkCommand_1
abbrev e0 : Mk := nX (n9 [])
abbrev m0 : Mk := sL 1 (sh (.fn 144 []) (n5 (sI (sI (nX [])))))
abbrev mr : Mk := n4 (sI (nX (n4 [])))
abbrev ps : Mk := sL 1 (sh (.fn 144 []) [])
abbrev rs : Mk := sI []
def C (k : Nat) : List (Ent PG R) := [action_checkCommand_1.en k]
def b0 (k : Nat) (J0 : Kt R (U1)) (Jret : Kt R (Int × U1)) (rec : Kt R (LL × (U1) × Int × Int × U1)) (x : (LL × (U1) × Int × Int × U1)) (S : LL) : Option R :=
  ifB (decide (x.2.2.2.1 < x.2.2.1)) (idxL x.1 x.2.2.2.1 fun v1 => asStr (leaf v1 0) fun s2 => action_checkCommand_1.fn k (s2, ()) S fun r3 S => ifB r3.1 (Jret (x.2.2.2.1, ()) S) (rec (x.1, (()), x.2.2.1, (IntKind.wrap .i64 (x.2.2.2.1 + (1 : Int))), ()) S)) (J0 (()) S)
def L0 (k : Nat) : Pc PG R (.loop (sub (cd Tryz.f67) [tt,ff,tt,ff,ff])) := mkLoop T_ok (C k) _ m0 k (.seq .auto (.seq (.cond .auto (.mask e0 .auto)) (.seq (.block (.seq .auto (.seq .auto (.cond (.seq .auto (.mask mr .auto)) .auto)))) .auto))) ⟨tr, ⟨tr, tr⟩, ⟨tr, tr, ⟨tr, tr⟩, tr⟩, tr⟩ (fun K => b0 k (fun o S => K (.ext 0) (Qm e0 o S)) (fun o S => K .ret (Qm mr o S))) (fun K rec x S => by kernel_rfl)
def fn (k : Nat) (x : (LL × (U1) × U1)) (S : LL) (K : Kt R (Int × U1)) : Option R :=
  rounds (b0 k (fun o4 S => K ((-1 : Int), ()) S) (fun o5 S => K (o5.1, ()) S)) k (x.1, (()), (x.1.length : Int), (0 : Int), ()) S
def en (k : Nat) : Ent PG R := mkFn T_ok Tryz.func67 ps rs (C k) (.seq .auto (.seq (.seq .auto (.block (.piece (L0 k).h))) (.seq .auto (.mask mr .auto)))) ⟨tr, ⟨tr, (L0 k).ok⟩, tr, tr⟩ (fn k) (by kernel_rfl) (by kernel_rfl) (fun x S K => by kernel_rfl)
end G.slices_IndexFunc_s_string_string_at_action_checkCommand_1
/-! ### 37: slices.ContainsFunc[[]string,string] -/
namespace G.slices_ContainsFunc_s_string_string_at_action_checkCommand_1
abbrev mr : Mk := n4 (sB (n4 []))
abbrev ps : Mk := sL 1 (sh (.fn 144 []) [])
abbrev rs : Mk := sB []
def C (k : Nat) : List (Ent PG R) := [slices_IndexFunc_s_string_string_at_action_checkCommand_1.en k]
def fn (k : Nat) (x : (LL × (U1) × U1)) (S : LL) (K : Kt R (Bool × U1)) : Option R :=
  slices_IndexFunc_s_string_string_at_action_checkCommand_1.fn k (x.1, (()), ()) S fun r1 S => K ((decide (r1.1 ≥ (0 : Int))), ()) S
def en (k : Nat) : Ent PG R := mkFn T_ok Tryz.func37 ps rs (C k) (.seq .auto (.seq .auto (.mask mr .auto))) ⟨tr, tr, tr⟩ (fn k) (by kernel_rfl) (by kernel_rfl) (fun x S K => by kernel_rfl)
end G.slices_ContainsFunc_s_string_string_at_action_checkCommand_1
/-! ### 146: smithyard/action.formOf -/
namespace G.action_formOf
abbrev c0 : Mk := n3 (sS (n2 (sB (nX (nX (n2 []))))))
abbrev c1 : Mk := n3 (sS (n9 (sB (nX (n5 [])))))
abbrev c2 : Mk := n3 (sS (nX (n1 (sB (nX (n3 []))))))
abbrev c3 : Mk := n3 (sS (nX (n3 (sB (nX (n1 []))))))
abbrev c4 : Mk := n3 (sS (nX (n5 (sB (n9 [])))))
abbrev c5 : Mk := n3 (sS (nX (n7 (sB (n7 [])))))
abbrev c6 : Mk := n3 (sS (nX (n9 (sB (n5 [])))))
abbrev c7 : Mk := n3 (sS (nX (nX (n1 (sB (n3 []))))))
abbrev z0 : Mk := nX (nX (n9 []))
abbrev z1 : Mk := nX (nX (n9 []))
abbrev z2 : Mk := nX (nX (n9 []))
abbrev z3 : Mk := nX (nX (n9 []))
abbrev z4 : Mk := nX (nX (n9 []))
abbrev z5 : Mk := nX (nX (n9 []))
abbrev z6 : Mk := nX (nX (n9 []))
abbrev z7 : Mk := nX (nX (n9 []))
abbrev mr : Mk := n2 (sS (nX (nX (n6 []))))
abbrev ps : Mk := sS []
abbrev rs : Mk := sS []
def C (k : Nat) : List (Ent PG R) := []
def q7 (k : Nat) (Jnrm : Kt R (U1)) (Jret : Kt R (BA × U1)) (x : (BA × Bool × U1)) (S : LL) : Option R :=
  ifB x.2.1 (Jret ((bs [112, 112]), ()) S) (ifB (strEq x.1 (bs [102, 97, 105, 108])) (Jret ((bs [110]), ()) S) (Jnrm (()) S))
def Q7 (k : Nat) : Pc PG R (sub (cd Tryz.f146) [tt,ff,tt,ff,tt,tt,tt,tt,tt,tt,tt,tt,tt,tt,tt,tt,tt,tt,tt,tt,tt]) := mkEnd T_ok (C k) _ c7 z7 (.cond (.seq .auto (.mask mr .auto)) (.seq .auto (.cond (.seq .auto (.mask mr .auto)) .auto))) ⟨⟨tr, tr⟩, tr, ⟨tr, tr⟩, tr⟩ (fun x S K => q7 k (fun o S => K .nrm (Qm z7 o S)) (fun o S => K .ret (Qm mr o S)) x S) (fun x S K => by kernel_rfl)
def q6 (k : Nat) (Jnrm : Kt R (U1)) (Jret : Kt R (BA × U1)) (x : (BA × Bool × U1)) (S : LL) : Option R :=
  ifB x.2.1 (Jret ((bs [112]), ()) S) (q7 k (fun o1 S => Jnrm (()) S) (fun o2 S => Jret (o2.1, ()) S) (x.1, (strEq x.1 (bs [115, 97, 109, 101])), ()) S)
def Q6 (k : Nat) : Pc PG R (sub (cd Tryz.f146) [tt,ff,tt,ff,tt,tt,tt,tt,tt,tt,tt,tt,tt,tt,tt,tt,tt,tt,tt]) := mkEnd T_ok (C k) _ c6 z6 (.cond (.seq .auto (.mask mr .auto)) (.seq .auto (.piece (Q7 k).h))) ⟨⟨tr, tr⟩, tr, (Q7 k).ok⟩ (fun x S K => q6 k (fun o S => K .nrm (Qm z6 o S)) (fun o S => K .ret (Qm mr o S)) x S) (fun x S K => by kernel_rfl)
def q5 (k : Nat) (Jnrm : Kt R (U1)) (Jret : Kt R (BA × U1)) (x : (BA × Bool × U1)) (S : LL) : Option R :=
  ifB x.2.1 (Jret ((bs [119, 43]), ()) S) (q6 k (fun o3 S => Jnrm (()) S) (fun o4 S => Jret (o4.1, ()) S) (x.1, (strEq x.1 (bs [110, 101, 101, 100])), ()) S)
def Q5 (k : Nat) : Pc PG R (sub (cd Tryz.f146) [tt,ff,tt,ff,tt,tt,tt,tt,tt,tt,tt,tt,tt,tt,tt,tt,tt]) := mkEnd T_ok (C k) _ c5 z5 (.cond (.seq .auto (.mask mr .auto)) (.seq .auto (.piece (Q6 k).h))) ⟨⟨tr, tr⟩, tr, (Q6 k).ok⟩ (fun x S K => q5 k (fun o S => K .nrm (Qm z5 o S)) (fun o S => K .ret (Qm mr o S)) x S) (fun x S K => by kernel_rfl)
def q4 (k : Nat) (Jnrm : Kt R (U1)) (Jret : Kt R (BA × U1)) (x : (BA × Bool × U1)) (S : LL) : Option R :=
  ifB x.2.1 (Jret ((bs [112, 119]), ()) S) (q5 k (fun o5 S => Jnrm (()) S) (fun o6 S => Jret (o6.1, ()) S) (x.1, (strEq x.1 (bs [116, 101, 108, 108])), ()) S)
def Q4 (k : Nat) : Pc PG R (sub (cd Tryz.f146) [tt,ff,tt,ff,tt,tt,tt,tt,tt,tt,tt,tt,tt,tt,tt]) := mkEnd T_ok (C k) _ c4 z4 (.cond (.seq .auto (.mask mr .auto)) (.seq .auto (.piece (Q5 k).h))) ⟨⟨tr, tr⟩, tr, (Q5 k).ok⟩ (fun x S K => q4 k (fun o S => K .nrm (Qm z4 o S)) (fun o S => K .ret (Qm mr o S)) x S) (fun x S K => by kernel_rfl)
def q3 (k : Nat) (Jnrm : Kt R (U1)) (Jret : Kt R (BA × U1)) (x : (BA × Bool × U1)) (S : LL) : Option R :=
  ifB x.2.1 (Jret ((bs [112, 112, 112, 43]), ()) S) (q4 k (fun o7 S => Jnrm (()) S) (fun o8 S => Jret (o8.1, ()) S) (x.1, (strEq x.1 (bs [118, 97, 114])), ()) S)
def Q3 (k : Nat) : Pc PG R (sub (cd Tryz.f146) [tt,ff,tt,ff,tt,tt,tt,tt,tt,tt,tt,tt,tt]) := mkEnd T_ok (C k) _ c3 z3 (.cond (.seq .auto (.mask mr .auto)) (.seq .auto (.piece (Q4 k).h))) ⟨⟨tr, tr⟩, tr, (Q4 k).ok⟩ (fun x S K => q3 k (fun o S => K .nrm (Qm z3 o S)) (fun o S => K .ret (Qm mr o S)) x S) (fun x S K => by kernel_rfl)
def q2 (k : Nat) (Jnrm : Kt R (U1)) (Jret : Kt R (BA × U1)) (x : (BA × Bool × U1)) (S : LL) : Option R :=
  ifB x.2.1 (Jret ((bs [112, 119, 119, 112]), ()) S) (q3 k (fun o9 S => Jnrm (()) S) (fun o10 S => Jret (o10.1, ()) S) (x.1, (strEq x.1 (bs [112, 105, 99, 107])), ()) S)
def Q2 (k : Nat) : Pc PG R (sub (cd Tryz.f146) [tt,ff,tt,ff,tt,tt,tt,tt,tt,tt,tt]) := mkEnd T_ok (C k) _ c2 z2 (.cond (.seq .auto (.mask mr .auto)) (.seq .auto (.piece (Q3 k).h))) ⟨⟨tr, tr⟩, tr, (Q3 k).ok⟩ (fun x S K => q2 k (fun o S => K .nrm (Qm z2 o S)) (fun o S => K .ret (Qm mr o S)) x S) (fun x S K => by kernel_rfl)
def q1 (k : Nat) (Jnrm : Kt R (U1)) (Jret : Kt R (BA × U1)) (x : (BA × Bool × U1)) (S : LL) : Option R :=
  ifB x.2.1 (Jret ((bs [112, 110, 112]), ()) S) (q2 k (fun o11 S => Jnrm (()) S) (fun o12 S => Jret (o12.1, ()) S) (x.1, (strEq x.1 (bs [99, 104, 97, 110, 103, 101])), ()) S)
def Q1 (k : Nat) : Pc PG R (sub (cd Tryz.f146) [tt,ff,tt,ff,tt,tt,tt,tt,tt]) := mkEnd T_ok (C k) _ c1 z1 (.cond (.seq .auto (.mask mr .auto)) (.seq .auto (.piece (Q2 k).h))) ⟨⟨tr, tr⟩, tr, (Q2 k).ok⟩ (fun x S K => q1 k (fun o S => K .nrm (Qm z1 o S)) (fun o S => K .ret (Qm mr o S)) x S) (fun x S K => by kernel_rfl)
def q0 (k : Nat) (Jnrm : Kt R (U1)) (Jret : Kt R (BA × U1)) (x : (BA × Bool × U1)) (S : LL) : Option R :=
  ifB x.2.1 (Jret ((bs [112, 112]), ()) S) (q1 k (fun o13 S => Jnrm (()) S) (fun o14 S => Jret (o14.1, ()) S) (x.1, (strEq x.1 (bs [102, 105, 114, 115, 116])), ()) S)
def Q0 (k : Nat) : Pc PG R (sub (cd Tryz.f146) [tt,ff,tt,ff,tt,tt,tt]) := mkEnd T_ok (C k) _ c0 z0 (.cond (.seq .auto (.mask mr .auto)) (.seq .auto (.piece (Q1 k).h))) ⟨⟨tr, tr⟩, tr, (Q1 k).ok⟩ (fun x S K => q0 k (fun o S => K .nrm (Qm z0 o S)) (fun o S => K .ret (Qm mr o S)) x S) (fun x S K => by kernel_rfl)
def fn (k : Nat) (x : (BA × U1)) (S : LL) (K : Kt R (BA × U1)) : Option R :=
  ifB (strEq x.1 (bs [106, 111, 105, 110])) (K ((bs [112, 112, 43]), ()) S) (ifB (strEq x.1 (bs [115, 111, 114, 116])) (q0 k (fun o15 S => K ((bs []), ()) S) (fun o16 S => K (o16.1, ()) S) (x.1, (strEq x.1 (bs [115, 111, 114, 116])), ()) S) (ifB (strEq x.1 (bs [99, 111, 117, 110, 116])) (q0 k (fun o17 S => K ((bs []), ()) S) (fun o18 S => K (o18.1, ()) S) (x.1, (strEq x.1 (bs [99, 111, 117, 110, 116])), ()) S) (ifB (strEq x.1 (bs [101, 120, 112, 97, 110, 100])) (q0 k (fun o19 S => K ((bs []), ()) S) (fun o20 S => K (o20.1, ()) S) (x.1, (strEq x.1 (bs [101, 120, 112, 97, 110, 100])), ()) S) (ifB (strEq x.1 (bs [109, 97, 107, 101])) (q0 k (fun o21 S => K ((bs []), ()) S) (fun o22 S => K (o22.1, ()) S) (x.1, (strEq x.1 (bs [109, 97, 107, 101])), ()) S) (ifB (strEq x.1 (bs [100, 105, 103, 101, 115, 116])) (q0 k (fun o23 S => K ((bs []), ()) S) (fun o24 S => K (o24.1, ()) S) (x.1, (strEq x.1 (bs [100, 105, 103, 101, 115, 116])), ()) S) (q0 k (fun o25 S => K ((bs []), ()) S) (fun o26 S => K (o26.1, ()) S) (x.1, (strEq x.1 (bs [108, 105, 115, 116])), ()) S))))))
def en (k : Nat) : Ent PG R := mkFn T_ok Tryz.func146 ps rs (C k) (.seq .auto (.seq (.seq .auto (.block (.seq .auto (.cond (.seq .auto (.mask mr .auto)) (.seq (.seq .auto (.cond .auto (.seq .auto (.cond .auto (.seq .auto (.cond .auto (.seq .auto (.cond .auto (.seq .auto (.cond .auto .auto)))))))))) (.piece (Q0 k).h)))))) (.seq .auto (.mask mr .auto)))) ⟨tr, ⟨tr, tr, ⟨tr, tr⟩, ⟨tr, tr, tr, tr, tr, tr, tr, tr, tr, tr, tr⟩, (Q0 k).ok⟩, tr, tr⟩ (fn k) (by kernel_rfl) (by kernel_rfl) (fun x S K => by kernel_rfl)
end G.action_formOf
/-! ### 169: internal/stringslite.HasSuffix -/
namespace G.internal_stringslite_HasSuffix
abbrev mr : Mk := n4 (sB (nX (n6 [])))
abbrev ps : Mk := sS (sS [])
abbrev rs : Mk := sB []
def C (k : Nat) : List (Ent PG R) := []
def fn (k : Nat) (x : (BA × BA × U1)) (S : LL) (K : Kt R (Bool × U1)) : Option R :=
  ifB (decide ((x.1.size : Int) ≥ (x.2.1.size : Int))) (slStr x.1 (IntKind.wrap .i64 ((x.1.size : Int) - (x.2.1.size : Int))) (x.1.size : Int) fun s1 => K ((strEq s1 x.2.1), ()) S) (K (false, ()) S)
def en (k : Nat) : Ent PG R := mkFn T_ok Tryz.func169 ps rs (C k) (.seq .auto (.seq .auto (.mask mr .auto))) ⟨tr, tr, tr⟩ (fn k) (by kernel_rfl) (by kernel_rfl) (fun x S K => by kernel_rfl)
end G.internal_stringslite_HasSuffix
/-! ### 203: internal/stringslite.CutSuffix -/
namespace G.internal_stringslite_CutSuffix
abbrev mr : Mk := n4 (sS (sB (nX (n2 []))))
abbrev ps : Mk := sS (sS [])
abbrev rs : Mk := sS (sB [])
def C (k : Nat) : List (Ent PG R) := [internal_stringslite_HasSuffix.en k]
def fn (k : Nat) (x : (BA × BA × U1)) (S : LL) (K : Kt R (BA × Bool × U1)) : Option R :=
  internal_stringslite_HasSuffix.fn k (x.1, x.2.1, ()) S fun r1 S => ifB (!r1.1) (K (x.1, false, ()) S) (slStr x.1 (0 : Int) (IntKind.wrap .i64 ((x.1.size : Int) - (x.2.1.size : Int))) fun s2 => K (s2, true, ()) S)
def en (k : Nat) : Ent PG R := mkFn T_ok Tryz.func203 ps rs (C k) (.seq .auto (.seq (.seq .auto (.cond (.seq .auto (.mask mr .auto)) .auto)) (.seq .auto (.mask mr .auto)))) ⟨tr, ⟨tr, ⟨tr, tr⟩, tr⟩, tr, tr⟩ (fn k) (by kernel_rfl) (by kernel_rfl) (fun x S K => by kernel_rfl)
end G.internal_stringslite_CutSuffix
/-! ### 178: strings.CutSuffix -/
namespace G.strings_CutSuffix
abbrev mr : Mk := n4 (sS (sB (n5 [])))
abbrev ps : Mk := sS (sS [])
abbrev rs : Mk := sS (sB [])
def C (k : Nat) : List (Ent PG R) := [internal_stringslite_CutSuffix.en k]
def fn (k : Nat) (x : (BA × BA × U1)) (S : LL) (K : Kt R (BA × Bool × U1)) : Option R :=
  internal_stringslite_CutSuffix.fn k (x.1, x.2.1, ()) S fun r1 S => K (r1.1, r1.2.1, ()) S
def en (k : Nat) : Ent PG R := mkFn T_ok Tryz.func178 ps rs (C k) (.seq .auto (.seq .auto (.mask mr .auto))) ⟨tr, tr, tr⟩ (fn k) (by kernel_rfl) (by kernel_rfl) (fun x S K => by kernel_rfl)
end G.strings_CutSuffix
/-! ### 190: smithyard/action.isNumber -/
namespace G.action_isNumber
abbrev mr : Mk := n4 (sB (nX (nX (n3 []))))
abbrev ps : Mk := sS (sI [])
abbrev rs : Mk := sB []
def C (k : Nat) : List (Ent PG R) := [⟨109, H.Trim.h k, H.Trim.ok k⟩]
def fn (k : Nat) (x : (BA × Int × U1)) (S : LL) (K : Kt R (Bool × U1)) : Option R :=
  ifB (decide ((x.1.size : Int) ≥ (1 : Int))) (ifB (decide ((x.1.size : Int) ≤ x.2.1)) (H.Trim.fn k (x.1, (bs [48, 49, 50, 51, 52, 53, 54, 55, 56, 57]), ()) S fun r1 S => ifB (strEq r1.1 (bs [])) (idxStr x.1 (0 : Int) fun c2 => ifB (c2 != (48 : Int)) (K (true, ()) S) (K ((strEq x.1 (bs [48])), ()) S)) (K (false, ()) S)) (K (false, ()) S)) (K (false, ()) S)
def en (k : Nat) : Ent PG R := mkFn T_ok Tryz.func190 ps rs (C k) (.seq .auto (.seq .auto (.mask mr .auto))) ⟨tr, tr, tr⟩ (fn k) (by kernel_rfl) (by kernel_rfl) (fun x S K => by kernel_rfl)
end G.action_isNumber
/-! ### 147: smithyard/action.hasForm -/
namespace G.action_hasForm
abbrev c0 : Mk := n1 (sS (nX (nX (n7 (sL 1 (sI (sI (nX (nX (n2 []))))))))))
abbrev c1 : Mk := sL 1 (sS (nX (nX (nX (nX (nX (n2 [])))))))
abbrev c2 : Mk := n1 (sS (nX (nX (n7 (sL 1 (sI (sI (sB (nX (nX (n1 [])))))))))))
abbrev c3 : Mk := n1 (sS (nX (nX (n7 (sL 1 (sI (sI (nX (nX (n2 []))))))))))
abbrev c4 : Mk := n1 (sS (n4 (sI (sS (nX (nX (n1 (sL 1 (sI (sI (nX (nX (n2 [])))))))))))))
abbrev c5 : Mk := n1 (sS (n5 (sS (nX (nX (n1 (sL 1 (sI (sI (nX (sh (.lf (.int .u8)) (nX (n1 [])))))))))))))
abbrev c6 : Mk := n1 (sS (n5 (sS (nX (nX (n1 (sL 1 (sI (sI (nX (sh (.lf (.int .u8)) (sB (nX [])))))))))))))
abbrev c7 : Mk := n1 (sS (n5 (sS (nX (nX (n1 (sL 1 (sI (sI (nX (n6 (sB (n5 [])))))))))))))
abbrev z0 : Mk := nX (nX (nX (nX (nX (n4 [])))))
abbrev z2 : Mk := n1 (sS (nX (nX (n7 (sL 1 (sI (sI (nX (nX (n2 []))))))))))
abbrev z3 : Mk := n1 (sS (nX (nX (n7 (sL 1 (sI (sI (nX (nX (n2 []))))))))))
abbrev z4 : Mk := n1 (sS (nX (nX (n7 (sL 1 (sI (sI (nX (nX (n2 []))))))))))
abbrev z5 : Mk := n1 (sS (nX (nX (n7 (sL 1 (sI (sI (nX (nX (n2 []))))))))))
abbrev z6 : Mk := n1 (sS (nX (nX (n7 (sL 1 (sI (sI (nX (nX (n2 []))))))))))
abbrev z7 : Mk := n1 (sS (nX (nX (n7 (sL 1 (sI (sI (nX (nX (n2 []))))))))))
abbrev e0 : Mk := nX (nX (nX (nX (nX (n4 [])))))
abbrev m0 : Mk := n1 (sS (nX (nX (n7 (sL 1 (sI (sI (nX (nX (n2 []))))))))))
abbrev mr : Mk := n4 (sB (nX (nX (nX (nX (n9 []))))))
abbrev ps : Mk := sL 1 (sS [])
abbrev rs : Mk := sB []
def C (k : Nat) : List (Ent PG R) := [blob_IsPath.en k, strings_CutSuffix.en k, action_isNumber.en k]
def q7 (k : Nat) (Jnrm : Kt R (BA × LL × Int × Int × U1)) (Jret : Kt R (Bool × U1)) (x : (BA × BA × LL × Int × Int × Bool × U1)) (S : LL) : Option R :=
  ifB x.2.2.2.2.2.1 (action_isNumber.fn k (x.2.1, (6 : Int), ()) S fun r6 S => ifB (!r6.1) (Jret (false, ()) S) (Jnrm (x.1, x.2.2.1, x.2.2.2.1, x.2.2.2.2.1, ()) S)) (Jnrm (x.1, x.2.2.1, x.2.2.2.1, x.2.2.2.2.1, ()) S)
def Q7 (k : Nat) : Pc PG R (sub (cd Tryz.f147) [tt,tt,tt,ff,tt,ff,ff,tt,tt,ff,ff,tt,tt,ff,tt,tt,tt]) := mkEnd T_ok (C k) _ c7 z7 (.cond (.seq .auto (.cond (.seq .auto (.mask mr .auto)) .auto)) .auto) ⟨⟨tr, ⟨tr, tr⟩, tr⟩, tr⟩ (fun x S K => q7 k (fun o S => K .nrm (Qm z7 o S)) (fun o S => K .ret (Qm mr o S)) x S) (fun x S K => by kernel_rfl)
def q6 (k : Nat) (Jnrm : Kt R (BA × LL × Int × Int × U1)) (Jret : Kt R (Bool × U1)) (x : (BA × BA × LL × Int × Int × Int × Bool × U1)) (S : LL) : Option R :=
  ifB x.2.2.2.2.2.2.1 (blob_IsPath.fn k (x.2.1, ()) S fun r5 S => ifB (!r5.1) (Jret (false, ()) S) (Jnrm (x.1, x.2.2.1, x.2.2.2.1, x.2.2.2.2.1, ()) S)) (q7 k (fun o7 S => Jnrm (o7.1, o7.2.1, o7.2.2.1, o7.2.2.2.1, ()) S) (fun o8 S => Jret (o8.1, ()) S) (x.1, x.2.1, x.2.2.1, x.2.2.2.1, x.2.2.2.2.1, (x.2.2.2.2.2.1 == (110 : Int)), ()) S)
def Q6 (k : Nat) : Pc PG R (sub (cd Tryz.f147) [tt,tt,tt,ff,tt,ff,ff,tt,tt,ff,ff,tt,tt,ff,tt]) := mkEnd T_ok (C k) _ c6 z6 (.cond (.seq .auto (.cond (.seq .auto (.mask mr .auto)) .auto)) (.seq .auto (.piece (Q7 k).h))) ⟨⟨tr, ⟨tr, tr⟩, tr⟩, tr, (Q7 k).ok⟩ (fun x S K => q6 k (fun o S => K .nrm (Qm z6 o S)) (fun o S => K .ret (Qm mr o S)) x S) (fun x S K => by kernel_rfl)
def q5 (k : Nat) (Jnrm : Kt R (BA × LL × Int × Int × U1)) (Jret : Kt R (Bool × U1)) (x : (BA × BA × LL × Int × Int × Int × U1)) (S : LL) : Option R :=
  q6 k (fun o9 S => Jnrm (o9.1, o9.2.1, o9.2.2.1, o9.2.2.2.1, ()) S) (fun o10 S => Jret (o10.1, ()) S) (x.1, x.2.1, x.2.2.1, x.2.2.2.1, x.2.2.2.2.1, x.2.2.2.2.2.1, (x.2.2.2.2.2.1 == (112 : Int)), ()) S
def Q5 (k : Nat) : Pc PG R (sub (cd Tryz.f147) [tt,tt,tt,ff,tt,ff,ff,tt,tt,ff,ff,tt,tt]) := mkEnd T_ok (C k) _ c5 z5 (.block (.seq .auto (.piece (Q6 k).h))) ⟨tr, (Q6 k).ok⟩ (fun x S K => q5 k (fun o S => K .nrm (Qm z5 o S)) (fun o S => K .ret (Qm mr o S)) x S) (fun x S K => by kernel_rfl)
def q4 (k : Nat) (Jnrm : Kt R (BA × LL × Int × Int × U1)) (Jret : Kt R (Bool × U1)) (x : (BA × Int × BA × LL × Int × Int × U1)) (S : LL) : Option R :=
  idxStr x.1 (minI x.2.1 (IntKind.wrap .i64 ((x.1.size : Int) - (1 : Int)))) fun c4 => q5 k (fun o11 S => Jnrm (o11.1, o11.2.1, o11.2.2.1, o11.2.2.2.1, ()) S) (fun o12 S => Jret (o12.1, ()) S) (x.1, x.2.2.1, x.2.2.2.1, x.2.2.2.2.1, x.2.2.2.2.2.1, c4, ()) S
def Q4 (k : Nat) : Pc PG R (sub (cd Tryz.f147) [tt,tt,tt,ff,tt,ff,ff,tt,tt,ff,ff,tt]) := mkEnd T_ok (C k) _ c4 z4 (.seq .auto (.piece (Q5 k).h)) ⟨tr, (Q5 k).ok⟩ (fun x S K => q4 k (fun o S => K .nrm (Qm z4 o S)) (fun o S => K .ret (Qm mr o S)) x S) (fun x S K => by kernel_rfl)
def q3 (k : Nat) (Jnrm : Kt R (BA × LL × Int × Int × U1)) (Jret : Kt R (Bool × U1)) (x : (BA × LL × Int × Int × U1)) (S : LL) : Option R :=
  idxL x.2.1 x.2.2.2.1 fun v2 => asStr (leaf v2 0) fun s3 => q4 k (fun o13 S => Jnrm (o13.1, o13.2.1, o13.2.2.1, (IntKind.wrap .i64 (o13.2.2.2.1 + (1 : Int))), ()) S) (fun o14 S => Jret (o14.1, ()) S) (x.1, x.2.2.2.1, s3, x.2.1, x.2.2.1, x.2.2.2.1, ()) S
def Q3 (k : Nat) : Pc PG R (sub (cd Tryz.f147) [tt,tt,tt,ff,tt,ff,ff,tt,tt]) := mkEnd T_ok (C k) _ c3 z3 (.seq (.block (.seq .auto (.piece (Q4 k).h))) .auto) ⟨⟨tr, (Q4 k).ok⟩, tr⟩ (fun x S K => q3 k (fun o S => K .nrm (Qm z3 o S)) (fun o S => K .ret (Qm mr o S)) x S) (fun x S K => by kernel_rfl)
def q2 (k : Nat) (Jnrm : Kt R (BA × LL × Int × Int × U1)) (J0 : Kt R (U1)) (Jret : Kt R (Bool × U1)) (x : (BA × LL × Int × Int × Bool × U1)) (S : LL) : Option R :=
  ifB x.2.2.2.2.1 (q3 k (fun o15 S => Jnrm (o15.1, o15.2.1, o15.2.2.1, o15.2.2.2.1, ()) S) (fun o16 S => Jret (o16.1, ()) S) (x.1, x.2.1, x.2.2.1, x.2.2.2.1, ()) S) (J0 (()) S)
def Q2 (k : Nat) : Pc PG R (sub (cd Tryz.f147) [tt,tt,tt,ff,tt,ff,ff,tt]) := mkEnd T_ok (C k) _ c2 z2 (.seq (.cond .auto (.mask e0 .auto)) (.piece (Q3 k).h)) ⟨⟨tr, tr⟩, (Q3 k).ok⟩ (fun x S K => q2 k (fun o S => K .nrm (Qm z2 o S)) (fun o S => K (.ext 0) (Qm e0 o S)) (fun o S => K .ret (Qm mr o S)) x S) (fun x S K => by kernel_rfl)
def b0 (k : Nat) (J0 : Kt R (U1)) (Jret : Kt R (Bool × U1)) (rec : Kt R (BA × LL × Int × Int × U1)) (x : (BA × LL × Int × Int × U1)) (S : LL) : Option R :=
  q2 k (fun o17 S => rec (o17.1, o17.2.1, o17.2.2.1, o17.2.2.2.1, ()) S) (fun o18 S => J0 (()) S) (fun o19 S => Jret (o19.1, ()) S) (x.1, x.2.1, x.2.2.1, x.2.2.2.1, (decide (x.2.2.2.1 < x.2.2.1)), ()) S
def L0 (k : Nat) : Pc PG R (.loop (sub (cd Tryz.f147) [tt,tt,tt,ff,tt,ff,ff])) := mkLoop T_ok (C k) _ m0 k (.seq .auto (.piece (Q2 k).h)) ⟨tr, (Q2 k).ok⟩ (fun K => b0 k (fun o S => K (.ext 0) (Qm e0 o S)) (fun o S => K .ret (Qm mr o S))) (fun K rec x S => by kernel_rfl)
def q0 (k : Nat) (Jnrm : Kt R (U1)) (Jret : Kt R (Bool × U1)) (x : (BA × LL × Int × Int × U1)) (S : LL) : Option R :=
  rounds (b0 k (fun o20 S => Jnrm (()) S) (fun o21 S => Jret (o21.1, ()) S)) k (x.1, x.2.1, x.2.2.1, x.2.2.2.1, ()) S
def Q0 (k : Nat) : Pc PG R (sub (cd Tryz.f147) [tt,tt,tt,ff,tt]) := mkEnd T_ok (C k) _ c0 z0 (.block (.piece (L0 k).h)) (L0 k).ok (fun x S K => q0 k (fun o S => K .nrm (Qm z0 o S)) (fun o S => K .ret (Qm mr o S)) x S) (fun x S K => by kernel_rfl)
def q1 (k : Nat) (Jret : Kt R (Bool × U1)) (x : (LL × BA × U1)) (S : LL) : Option R :=
  q0 k (fun o22 S => Jret (true, ()) S) (fun o23 S => Jret (o23.1, ()) S) (x.2.1, x.1, (x.1.length : Int), (0 : Int), ()) S
def Q1 (k : Nat) : Pc PG R (sub (cd Tryz.f147) [tt,tt,tt]) := mkCut T_ok (C k) _ c1 (.seq (.seq .auto (.piece (Q0 k).h)) (.seq .auto (.mask mr .auto))) ⟨⟨tr, (Q0 k).ok⟩, tr, tr⟩ (fun x S K => q1 k (fun o S => K .ret (Qm mr o S)) x S) (fun x S K => by kernel_rfl)
def fn (k : Nat) (x : (LL × BA × U1)) (S : LL) (K : Kt R (Bool × U1)) : Option R :=
  strings_CutSuffix.fn k (x.2.1, (bs [43]), ()) S fun r1 S => ifB (decide ((x.1.length : Int) < (r1.1.size : Int))) (K (false, ()) S) (ifB (decide ((x.1.length : Int) > (r1.1.size : Int))) (ifB (!r1.2.1) (K (false, ()) S) (q1 k (fun o24 S => K (o24.1, ()) S) (x.1, r1.1, ()) S)) (q1 k (fun o25 S => K (o25.1, ()) S) (x.1, r1.1, ()) S))
def en (k : Nat) : Ent PG R := mkFn T_ok Tryz.func147 ps rs (C k) (.seq .auto (.seq (.own [(2, 1)]) (.seq (.seq .auto (.cond (.seq .auto (.mask mr .auto)) .auto)) (.piece (Q1 k).h)))) ⟨tr, tr, ⟨tr, ⟨tr, tr⟩, tr⟩, (Q1 k).ok⟩ (fn k) (by kernel_rfl) (by kernel_rfl) (fun x S K => by kernel_rfl)
end G.action_hasForm
/-! ### 104: smithyard/action.checkCommand -/
namespace G.action_checkCommand
abbrev mr : Mk := n2 (sI (nX (nX (nX (n2 [])))))
abbrev ps : Mk := sL 1 []
abbrev rs : Mk := sI []
def C (k : Nat) : List (Ent PG R) := [slices_ContainsFunc_s_string_string_at_action_checkCommand_1.en k, action_formOf.en k, action_hasForm.en k]
def fn (k : Nat) (x : (LL × U1)) (S : LL) (K : Kt R (Int × U1)) : Option R :=
  ifB ((x.1.length : Int) == (0 : Int)) (K ((9 : Int), ()) S) (ifB (decide ((x.1.length : Int) > (50 : Int))) (K ((2 : Int), ()) S) (slices_ContainsFunc_s_string_string_at_action_checkCommand_1.fn k (x.1, (()), ()) S fun r1 S => ifB r1.1 (K ((3 : Int), ()) S) (idxL x.1 (0 : Int) fun v2 => asStr (leaf v2 0) fun s3 => action_formOf.fn k (s3, ()) S fun r4 S => ifB (strEq r4.1 (bs [])) (K ((4 : Int), ()) S) (slL x.1 (1 : Int) (x.1.length : Int) fun l5 => action_hasForm.fn k (l5, r4.1, ()) S fun r6 S => ifB (!r6.1) (K ((3 : Int), ()) S) (idxL x.1 (0 : Int) fun v7 => asStr (leaf v7 0) fun s8 => ifB (strEq s8 (bs [102, 97, 105, 108])) (idxL x.1 (1 : Int) fun v9 => asStr (leaf v9 0) fun s10 => ifB (strEq s10 (bs [48])) (K ((3 : Int), ()) S) (K ((0 : Int), ()) S)) (K ((0 : Int), ()) S))))))
def en (k : Nat) : Ent PG R := mkFn T_ok Tryz.func104 ps rs (C k) (.seq .auto (.seq (.seq .auto (.cond (.seq .auto (.mask mr .auto)) .auto)) (.seq (.seq .auto (.cond (.seq .auto (.mask mr .auto)) .auto)) (.seq (.seq .auto (.cond (.seq .auto (.mask mr .auto)) .auto)) (.seq .auto (.seq (.seq .auto (.cond (.seq .auto (.mask mr .auto)) .auto)) (.seq (.seq .auto (.cond (.seq .auto (.mask mr .auto)) .auto)) (.seq .auto (.mask mr .auto))))))))) ⟨tr, ⟨tr, ⟨tr, tr⟩, tr⟩, ⟨tr, ⟨tr, tr⟩, tr⟩, ⟨tr, ⟨tr, tr⟩, tr⟩, tr, ⟨tr, ⟨tr, tr⟩, tr⟩, ⟨tr, ⟨tr, tr⟩, tr⟩, tr, tr⟩ (fn k) (by kernel_rfl) (by kernel_rfl) (fun x S K => by kernel_rfl)
end G.action_checkCommand
/-! ### 191: smithyard/script.isSmall -/
namespace G.script_isSmall
abbrev mr : Mk := n2 (sB (n6 []))
abbrev ps : Mk := sh (.lf (.int .u8)) []
abbrev rs : Mk := sB []
def C (k : Nat) : List (Ent PG R) := []
def fn (k : Nat) (x : (Int × U1)) (S : LL) (K : Kt R (Bool × U1)) : Option R :=
  ifB (decide (x.1 ≥ (97 : Int))) (K ((decide (x.1 ≤ (122 : Int))), ()) S) (K (false, ()) S)
def en (k : Nat) : Ent PG R := mkFn T_ok Tryz.func191 ps rs (C k) (.seq .auto (.seq .auto (.mask mr .auto))) ⟨tr, tr, tr⟩ (fn k) (by kernel_rfl) (by kernel_rfl) (fun x S K => by kernel_rfl)
end G.script_isSmall
/-! ### 192: smithyard/script.isDigit -/
namespace G.script_isDigit
abbrev mr : Mk := n2 (sB (n6 []))
abbrev ps : Mk := sh (.lf (.int .u8)) []
abbrev rs : Mk := sB []
def C (k : Nat) : List (Ent PG R) := []
def fn (k : Nat) (x : (Int × U1)) (S : LL) (K : Kt R (Bool × U1)) : Option R :=
  ifB (decide (x.1 ≥ (48 : Int))) (K ((decide (x.1 ≤ (57 : Int))), ()) S) (K (false, ()) S)
def en (k : Nat) : Ent PG R := mkFn T_ok Tryz.func192 ps rs (C k) (.seq .auto (.seq .auto (.mask mr .auto))) ⟨tr, tr, tr⟩ (fn k) (by kernel_rfl) (by kernel_rfl) (fun x S K => by kernel_rfl)
end G.script_isDigit
/-! ### 193: smithyard/script.words -/
namespace G.script_words
abbrev mr : Mk := sO 9 1 (n1 [])
abbrev ps : Mk := []
abbrev rs : Mk := sO 9 1 []
def C (k : Nat) : List (Ent PG R) := []
def fn (k : Nat) (x : (U1)) (S : LL) (K : Kt R (LL × U1)) : Option R :=
  K ([(.str (bs [109, 97, 99, 114, 111])), (.str (bs [102, 111, 114])), (.str (bs [105, 110])), (.str (bs [105, 102])), (.str (bs [101, 108, 115, 101])), (.str (bs [117, 115, 101])), (.str (bs [102, 105, 108, 101, 115])), (.str (bs [99, 104, 111, 111, 115, 101]))], ()) S
def en (k : Nat) : Ent PG R := mkFn T_ok Tryz.func193 ps rs (C k) (.seq .auto (.seq .auto (.mask mr .auto))) ⟨tr, tr, tr⟩ (fn k) (by kernel_rfl) (by kernel_rfl) (fun x S K => by kernel_rfl)
end G.script_words
/-! ### 27: slices.Index[[]string,string] -/
namespace G.slices_Index_s_string_string
abbrev e0 : Mk := nX (n9 [])
abbrev m0 : Mk := sL 1 (sS (n5 (sI (sI (nX [])))))
abbrev mr : Mk := n4 (sI (nX (n4 [])))
abbrev ps : Mk := sL 1 (sS [])
abbrev rs : Mk := sI []
def C (k : Nat) : List (Ent PG R) := []
def b0 (k : Nat) (J0 : Kt R (U1)) (Jret : Kt R (Int × U1)) (rec : Kt R (LL × BA × Int × Int × U1)) (x : (LL × BA × Int × Int × U1)) (S : LL) : Option R :=
  ifB (decide (x.2.2.2.1 < x.2.2.1)) (idxL x.1 x.2.2.2.1 fun v1 => asStr (leaf v1 0) fun s2 => ifB (strEq x.2.1 s2) (Jret (x.2.2.2.1, ()) S) (rec (x.1, x.2.1, x.2.2.1, (IntKind.wrap .i64 (x.2.2.2.1 + (1 : Int))), ()) S)) (J0 (()) S)
def L0 (k : Nat) : Pc PG R (.loop (sub (cd Tryz.f27) [tt,ff,tt,ff,ff])) := mkLoop T_ok (C k) _ m0 k (.seq .auto (.seq (.cond .auto (.mask e0 .auto)) (.seq (.block (.seq .auto (.seq .auto (.cond (.seq .auto (.mask mr .auto)) .auto)))) .auto))) ⟨tr, ⟨tr, tr⟩, ⟨tr, tr, ⟨tr, tr⟩, tr⟩, tr⟩ (fun K => b0 k (fun o S => K (.ext 0) (Qm e0 o S)) (fun o S => K .ret (Qm mr o S))) (fun K rec x S => by kernel_rfl)
def fn (k : Nat) (x : (LL × BA × U1)) (S : LL) (K : Kt R (Int × U1)) : Option R :=
  rounds (b0 k (fun o3 S => K ((-1 : Int), ()) S) (fun o4 S => K (o4.1, ()) S)) k (x.1, x.2.1, (x.1.length : Int), (0 : Int), ()) S
def en (k : Nat) : Ent PG R := mkFn T_ok Tryz.func27 ps rs (C k) (.seq .auto (.seq (.seq .auto (.block (.piece (L0 k).h))) (.seq .auto (.mask mr .auto)))) ⟨tr, ⟨tr, (L0 k).ok⟩, tr, tr⟩ (fn k) (by kernel_rfl) (by kernel_rfl) (fun x S K => by kernel_rfl)
end G.slices_Index_s_string_string
/-! ### 10: slices.Contains[[]string,string] -/
namespace G.slices_Contains_s_string_string
abbrev mr : Mk := n4 (sB (n4 []))
abbrev ps : Mk := sL 1 (sS [])
abbrev rs : Mk := sB []
def C (k : Nat) : List (Ent PG R) := [slices_Index_s_string_string.en k]
def fn (k : Nat) (x : (LL × BA × U1)) (S : LL) (K : Kt R (Bool × U1)) : Option R :=
  slices_Index_s_string_string.fn k (x.1, x.2.1, ()) S fun r1 S => K ((decide (r1.1 ≥ (0 : Int))), ()) S
def en (k : Nat) : Ent PG R := mkFn T_ok Tryz.func10 ps rs (C k) (.seq .auto (.seq .auto (.mask mr .auto))) ⟨tr, tr, tr⟩ (fn k) (by kernel_rfl) (by kernel_rfl) (fun x S K => by kernel_rfl)
end G.slices_Contains_s_string_string
/-! ### 148: smithyard/script.IsName -/
namespace G.script_IsName
abbrev e0 : Mk := sS (nX (nX (nX (nX (n5 [])))))
abbrev m0 : Mk := sS (nX (n8 (sI (sI (nX (nX (n5 [])))))))
abbrev mr : Mk := n2 (sB (nX (nX (nX (nX (n3 []))))))
abbrev ps : Mk := sS []
abbrev rs : Mk := sB []
def C (k : Nat) : List (Ent PG R) := [slices_Contains_s_string_string.en k, script_isSmall.en k, script_isDigit.en k, script_words.en k]
def b0 (k : Nat) (J0 : Kt R (BA × U1)) (Jret : Kt R (Bool × U1)) (rec : Kt R (BA × Int × Int × U1)) (x : (BA × Int × Int × U1)) (S : LL) : Option R :=
  ifB (decide (x.2.2.1 < x.2.1)) (idxStr x.1 x.2.2.1 fun c3 => script_isSmall.fn k (c3, ()) S fun r4 S => ifB (!r4.1) (idxStr x.1 x.2.2.1 fun c5 => script_isDigit.fn k (c5, ()) S fun r6 S => ifB (!r6.1) (idxStr x.1 x.2.2.1 fun c7 => ifB (c7 != (95 : Int)) (Jret (false, ()) S) (rec (x.1, x.2.1, (IntKind.wrap .i64 (x.2.2.1 + (1 : Int))), ()) S)) (rec (x.1, x.2.1, (IntKind.wrap .i64 (x.2.2.1 + (1 : Int))), ()) S)) (rec (x.1, x.2.1, (IntKind.wrap .i64 (x.2.2.1 + (1 : Int))), ()) S)) (J0 (x.1, ()) S)
def L0 (k : Nat) : Pc PG R (.loop (sub (cd Tryz.f148) [tt,tt,ff,tt,ff,ff])) := mkLoop T_ok (C k) _ m0 k (.seq .auto (.seq (.cond .auto (.mask e0 .auto)) (.seq (.block (.seq .auto (.seq .auto (.cond (.seq .auto (.mask mr .auto)) .auto)))) .auto))) ⟨tr, ⟨tr, tr⟩, ⟨tr, tr, ⟨tr, tr⟩, tr⟩, tr⟩ (fun K => b0 k (fun o S => K (.ext 0) (Qm e0 o S)) (fun o S => K .ret (Qm mr o S))) (fun K rec x S => by kernel_rfl)
def fn (k : Nat) (x : (BA × U1)) (S : LL) (K : Kt R (Bool × U1)) : Option R :=
  ifB (decide ((x.1.size : Int) < (1 : Int))) (K (false, ()) S) (ifB (decide ((x.1.size : Int) > (40 : Int))) (K (false, ()) S) (idxStr x.1 (0 : Int) fun c1 => script_isSmall.fn k (c1, ()) S fun r2 S => ifB (!r2.1) (K (false, ()) S) (rounds (b0 k (fun o8 S => script_words.fn k (()) S fun r9 S => slices_Contains_s_string_string.fn k (r9.1, o8.1, ()) S fun r10 S => K ((!r10.1), ()) S) (fun o11 S => K (o11.1, ()) S)) k (x.1, (x.1.size : Int), (0 : Int), ()) S)))
def en (k : Nat) : Ent PG R := mkFn T_ok Tryz.func148 ps rs (C k) (.seq .auto (.seq (.seq .auto (.cond (.seq .auto (.mask mr .auto)) .auto)) (.seq (.seq .auto (.block (.piece (L0 k).h))) (.seq .auto (.mask mr .auto))))) ⟨tr, ⟨tr, ⟨tr, tr⟩, tr⟩, ⟨tr, (L0 k).ok⟩, tr, tr⟩ (fn k) (by kernel_rfl) (by kernel_rfl) (fun x S K => by kernel_rfl)
end G.script_IsName
/-! ### 149: smithyard/action.checkVars$1 -/
namespace G.action_checkVars_1
abbrev mr : Mk := n2 (sB (n6 []))
abbrev ps : Mk := sh (.lf (.int .i32)) []
abbrev rs : Mk := sB []
def C (k : Nat) : List (Ent PG R) := []
def fn (k : Nat) (x : (Int × U1)) (S : LL) (K : Kt R (Bool × U1)) : Option R :=
  ifB (decide (x.1 < (32 : Int))) (K (true, ()) S) (K ((decide (x.1 > (126 : Int))), ()) S)
def en (k : Nat) : Ent PG R := mkFn T_ok Tryz.func149 ps rs (C k) (.seq .auto (.seq .auto (.mask mr .auto))) ⟨tr, tr, tr⟩ (fn k) (by kernel_rfl) (by kernel_rfl) (fun x S K => by kernel_rfl)
end G.action_checkVars_1
/-! ### 201: strings.indexFunc at smithyard/action.checkVars$1 -/
def H.indexFunc_at_action_checkVars_1.fn (k : Nat) (x : ByteArray × Unit × Bool × Unit) (S : List LV) (K : Int × Unit → List LV → Option R) : Option R := H.indexFunc.fn (G.action_checkVars_1.en k).h 149 x S K
def H.indexFunc_at_action_checkVars_1.h (k : Nat) : Hd R := hT (H.indexFunc.ps 149) fun x S K => H.indexFunc_at_action_checkVars_1.fn k x S fun r S => K (resE H.indexFunc.rs r) S
theorem H.indexFunc_at_action_checkVars_1.ok (k : Nat) : HSound Tryz.prog 201 (H.indexFunc_at_action_checkVars_1.h (R := R) k) := H.indexFunc.ok (G.action_checkVars_1.en k).ok (enters_ok Tryz.func149 (by kernel_rfl) (by kernel_rfl))
/-! ### 168: strings.IndexFunc -/
namespace G.strings_IndexFunc_at_action_checkVars_1
abbrev mr : Mk := n4 (sI (n3 []))
abbrev ps : Mk := sS (sh (.fn 149 []) [])
abbrev rs : Mk := sI []
def C (k : Nat) : List (Ent PG R) := [⟨201, H.indexFunc_at_action_checkVars_1.h k, H.indexFunc_at_action_checkVars_1.ok k⟩]
def fn (k : Nat) (x : (BA × (U1) × U1)) (S : LL) (K : Kt R (Int × U1)) : Option R :=
  H.indexFunc_at_action_checkVars_1.fn k (x.1, (()), true, ()) S fun r1 S => K (r1.1, ()) S
def en (k : Nat) : Ent PG R := mkFn T_ok Tryz.func168 ps rs (C k) (.seq .auto (.seq .auto (.mask mr .auto))) ⟨tr, tr, tr⟩ (fn k) (by kernel_rfl) (by kernel_rfl) (fun x S K => by kernel_rfl)
end G.strings_IndexFunc_at_action_checkVars_1
/-! ### 110: strings.ContainsFunc -/
namespace G.strings_ContainsFunc_at_action_checkVars_1
abbrev mr : Mk := n4 (sB (n4 []))
abbrev ps : Mk := sS (sh (.fn 149 []) [])
abbrev rs : Mk := sB []
def C (k : Nat) : List (Ent PG R) := [strings_IndexFunc_at_action_checkVars_1.en k]
def fn (k : Nat) (x : (BA × (U1) × U1)) (S : LL) (K : Kt R (Bool × U1)) : Option R :=
  strings_IndexFunc_at_action_checkVars_1.fn k (x.1, (()), ()) S fun r1 S => K ((decide (r1.1 ≥ (0 : Int))), ()) S
def en (k : Nat) : Ent PG R := mkFn T_ok Tryz.func110 ps rs (C k) (.seq .auto (.seq .auto (.mask mr .auto))) ⟨tr, tr, tr⟩ (fn k) (by kernel_rfl) (by kernel_rfl) (fun x S K => by kernel_rfl)
end G.strings_ContainsFunc_at_action_checkVars_1
/-! ### 105: smithyard/action.checkVars -/
namespace G.action_checkVars
abbrev c0 : Mk := sL 2 (n2 (sI (sX [.str, .str] (n3 (sL 2 (sI (sI (n9 (sB (nX (nX (n4 []))))))))))))
abbrev z0 : Mk := sL 2 (n7 (sL 2 (sI (sI (nX (nX (nX (n4 []))))))))
abbrev e0 : Mk := nX (nX (nX (nX (n5 []))))
abbrev m0 : Mk := sL 2 (n7 (sL 2 (sI (sI (nX (nX (nX (n4 []))))))))
abbrev mr : Mk := n2 (sI (nX (nX (nX (nX (n2 []))))))
abbrev ps : Mk := sL 2 []
abbrev rs : Mk := sI []
def C (k : Nat) : List (Ent PG R) := [strings_ContainsFunc_at_action_checkVars_1.en k, script_IsName.en k]
def q0 (k : Nat) (Jnrm : Kt R (LL × LL × Int × Int × U1)) (Jret : Kt R (Int × U1)) (x : (LL × Int × (BA × BA × U1) × LL × Int × Int × Bool × U1)) (S : LL) : Option R :=
  ifB x.2.2.2.2.2.2.1 (Jret ((3 : Int), ()) S) (ifB (decide (x.2.1 > (0 : Int))) (idxL x.1 (IntKind.wrap .i64 (x.2.1 - (1 : Int))) fun v6 => asStr (leaf v6 0) fun s7 => ifB (strLt x.2.2.1.1 s7 || strEq x.2.2.1.1 s7) (Jret ((8 : Int), ()) S) (Jnrm (x.1, x.2.2.2.1, x.2.2.2.2.1, x.2.2.2.2.2.1, ()) S)) (Jnrm (x.1, x.2.2.2.1, x.2.2.2.2.1, x.2.2.2.2.2.1, ()) S))
def Q0 (k : Nat) : Pc PG R (sub (cd Tryz.f105) [tt,tt,ff,tt,ff,ff,tt,tt,ff,ff,tt,ff,tt,tt,tt]) := mkEnd T_ok (C k) _ c0 z0 (.cond (.seq .auto (.mask mr .auto)) (.seq (.drawn [] [0, 1, 2, 3, 4, 5, 6, 7, 8, 9, 10, 11, 12, 13]) (.cond (.seq .auto (.mask mr .auto)) .auto))) ⟨⟨tr, tr⟩, (drawn_an (by kernel_rfl)), ⟨tr, tr⟩, tr⟩ (fun x S K => q0 k (fun o S => K .nrm (Qm z0 o S)) (fun o S => K .ret (Qm mr o S)) x S) (fun x S K => by kernel_rfl)
def b0 (k : Nat) (J0 : Kt R (U1)) (Jret : Kt R (Int × U1)) (rec : Kt R (LL × LL × Int × Int × U1)) (x : (LL × LL × Int × Int × U1)) (S : LL) : Option R :=
  ifB (decide (x.2.2.2.1 < x.2.2.1)) (idxL x.2.1 x.2.2.2.1 fun v1 => mat 2 v1 fun c2 => asStr (c2.getD 0 .any) fun s3 => asStr (c2.getD 1 .any) fun s4 => script_IsName.fn k (s3, ()) S fun r5 S => ifB (!r5.1) (Jret ((5 : Int), ()) S) (ifB (decide ((s4.size : Int) > (300 : Int))) (q0 k (fun o8 S => rec (o8.1, o8.2.1, o8.2.2.1, (IntKind.wrap .i64 (o8.2.2.2.1 + (1 : Int))), ()) S) (fun o9 S => Jret (o9.1, ()) S) (x.1, x.2.2.2.1, (s3, s4, ()), x.2.1, x.2.2.1, x.2.2.2.1, true, ()) S) (strings_ContainsFunc_at_action_checkVars_1.fn k (s4, (()), ()) S fun r10 S => q0 k (fun o11 S => rec (o11.1, o11.2.1, o11.2.2.1, (IntKind.wrap .i64 (o11.2.2.2.1 + (1 : Int))), ()) S) (fun o12 S => Jret (o12.1, ()) S) (x.1, x.2.2.2.1, (s3, s4, ()), x.2.1, x.2.2.1, x.2.2.2.1, r10.1, ()) S))) (J0 (()) S)
def L0 (k : Nat) : Pc PG R (.loop (sub (cd Tryz.f105) [tt,tt,ff,tt,ff,ff])) := mkLoop T_ok (C k) _ m0 k (.seq .auto (.seq (.cond .auto (.mask e0 .auto)) (.seq (.block (.seq .auto (.block (.seq .auto (.cond (.seq .auto (.mask mr .auto)) (.seq .auto (.piece (Q0 k).h))))))) .auto))) ⟨tr, ⟨tr, tr⟩, ⟨tr, tr, ⟨tr, tr⟩, tr, (Q0 k).ok⟩, tr⟩ (fun K => b0 k (fun o S => K (.ext 0) (Qm e0 o S)) (fun o S => K .ret (Qm mr o S))) (fun K rec x S => by kernel_rfl)
def fn (k : Nat) (x : (LL × U1)) (S : LL) (K : Kt R (Int × U1)) : Option R :=
  ifB (decide ((x.1.length : Int) > (30 : Int))) (K ((2 : Int), ()) S) (rounds (b0 k (fun o13 S => K ((0 : Int), ()) S) (fun o14 S => K (o14.1, ()) S)) k (x.1, x.1, (x.1.length : Int), (0 : Int), ()) S)
def en (k : Nat) : Ent PG R := mkFn T_ok Tryz.func105 ps rs (C k) (.seq .auto (.seq (.seq .auto (.cond (.seq .auto (.mask mr .auto)) .auto)) (.seq (.seq .auto (.block (.piece (L0 k).h))) (.seq .auto (.mask mr .auto))))) ⟨tr, ⟨tr, ⟨tr, tr⟩, tr⟩, ⟨tr, (L0 k).ok⟩, tr, tr⟩ (fn k) (by kernel_rfl) (by kernel_rfl) (fun x S K => by kernel_rfl)
end G.action_checkVars
/-! ### 130: internal/stringslite.HasPrefix -/
namespace G.internal_stringslite_HasPrefix
abbrev mr : Mk := n4 (sB (nX (n3 [])))
abbrev ps : Mk := sS (sS [])
abbrev rs : Mk := sB []
def C (k : Nat) : List (Ent PG R) := []
def fn (k : Nat) (x : (BA × BA × U1)) (S : LL) (K : Kt R (Bool × U1)) : Option R :=
  ifB (decide ((x.1.size : Int) ≥ (x.2.1.size : Int))) (slStr x.1 (0 : Int) (x.2.1.size : Int) fun s1 => K ((strEq s1 x.2.1), ()) S) (K (false, ()) S)
def en (k : Nat) : Ent PG R := mkFn T_ok Tryz.func130 ps rs (C k) (.seq .auto (.seq .auto (.mask mr .auto))) ⟨tr, tr, tr⟩ (fn k) (by kernel_rfl) (by kernel_rfl) (fun x S K => by kernel_rfl)
end G.internal_stringslite_HasPrefix
/-! ### 98: strings.HasPrefix -/
namespace G.strings_HasPrefix
abbrev mr : Mk := n4 (sB (n3 []))
abbrev ps : Mk := sS (sS [])
abbrev rs : Mk := sB []
def C (k : Nat) : List (Ent PG R) := [internal_stringslite_HasPrefix.en k]
def fn (k : Nat) (x : (BA × BA × U1)) (S : LL) (K : Kt R (Bool × U1)) : Option R :=
  internal_stringslite_HasPrefix.fn k (x.1, x.2.1, ()) S fun r1 S => K (r1.1, ()) S
def en (k : Nat) : Ent PG R := mkFn T_ok Tryz.func98 ps rs (C k) (.seq .auto (.seq .auto (.mask mr .auto))) ⟨tr, tr, tr⟩ (fn k) (by kernel_rfl) (by kernel_rfl) (fun x S K => by kernel_rfl)
end G.strings_HasPrefix
/-! ### 151: smithyard/blob.Within -/
namespace G.blob_Within
abbrev mr : Mk := n4 (sB (n4 []))
abbrev ps : Mk := sS (sS [])
abbrev rs : Mk := sB []
def C (k : Nat) : List (Ent PG R) := [strings_HasPrefix.en k]
def fn (k : Nat) (x : (BA × BA × U1)) (S : LL) (K : Kt R (Bool × U1)) : Option R :=
  catStr x.2.1 (bs [47]) fun s1 => strings_HasPrefix.fn k (x.1, s1, ()) S fun r2 S => K (r2.1, ()) S
def en (k : Nat) : Ent PG R := mkFn T_ok Tryz.func151 ps rs (C k) (.seq .auto (.seq .auto (.mask mr .auto))) ⟨tr, tr, tr⟩ (fn k) (by kernel_rfl) (by kernel_rfl) (fun x S K => by kernel_rfl)
end G.blob_Within
/-! ### 150: smithyard/action.checkOutputs$1 -/
namespace G.action_checkOutputs_1
abbrev mr : Mk := n3 (sB (n3 []))
abbrev ps : Mk := sS (sP [])
abbrev rs : Mk := sB []
def C (k : Nat) : List (Ent PG R) := [blob_Within.en k]
def fn (k : Nat) (x : (BA × (Nat × Nat) × U1)) (S : LL) (K : Kt R (Bool × U1)) : Option R :=
  objAt S x.2.1.1 fun ty c1 => ldStr c1 x.2.1.2 fun s2 => blob_Within.fn k (s2, x.1, ()) S fun r3 S => K (r3.1, ()) S
def en (k : Nat) : Ent PG R := mkFn T_ok Tryz.func150 ps rs (C k) (.seq .auto (.seq (.own [(0, 1)]) (.mask mr .auto))) ⟨tr, tr, tr⟩ (fn k) (by kernel_rfl) (by kernel_rfl) (fun x S K => by kernel_rfl)
end G.action_checkOutputs_1
/-! ### 67: slices.IndexFunc[[]string,string] -/
namespace G.slices_IndexFunc_s_string_string_at_action_checkOutputs_1
abbrev e0 : Mk := nX (n9 [])
abbrev m0 : Mk := sL 1 (sh (.fn 150 [.ptr]) (n5 (sI (sI (nX [])))))
abbrev mr : Mk := n4 (sI (nX (n4 [])))
abbrev ps : Mk := sL 1 (sh (.fn 150 [.ptr]) [])
abbrev rs : Mk := sI []
def C (k : Nat) : List (Ent PG R) := [action_checkOutputs_1.en k]
def b0 (k : Nat) (J0 : Kt R (U1)) (Jret : Kt R (Int × U1)) (rec : Kt R (LL × ((Nat × Nat) × U1) × Int × Int × U1)) (x : (LL × ((Nat × Nat) × U1) × Int × Int × U1)) (S : LL) : Option R :=
  ifB (decide (x.2.2.2.1 < x.2.2.1)) (idxL x.1 x.2.2.2.1 fun v1 => asStr (leaf v1 0) fun s2 => action_checkOutputs_1.fn k (s2, (x.2.1.1.1, x.2.1.1.2), ()) S fun r3 S => ifB r3.1 (Jret (x.2.2.2.1, ()) S) (rec (x.1, ((x.2.1.1.1, x.2.1.1.2), ()), x.2.2.1, (IntKind.wrap .i64 (x.2.2.2.1 + (1 : Int))), ()) S)) (J0 (()) S)
def L0 (k : Nat) : Pc PG R (.loop (sub (cd Tryz.f67) [tt,ff,tt,ff,ff])) := mkLoop T_ok (C k) _ m0 k (.seq .auto (.seq (.cond .auto (.mask e0 .auto)) (.seq (.block (.seq .auto (.seq .auto (.cond (.seq .auto (.mask mr .auto)) .auto)))) .auto))) ⟨tr, ⟨tr, tr⟩, ⟨tr, tr, ⟨tr, tr⟩, tr⟩, tr⟩ (fun K => b0 k (fun o S => K (.ext 0) (Qm e0 o S)) (fun o S => K .ret (Qm mr o S))) (fun K rec x S => by kernel_rfl)
def fn (k : Nat) (x : (LL × ((Nat × Nat) × U1) × U1)) (S : LL) (K : Kt R (Int × U1)) : Option R :=
  rounds (b0 k (fun o4 S => K ((-1 : Int), ()) S) (fun o5 S => K (o5.1, ()) S)) k (x.1, ((x.2.1.1.1, x.2.1.1.2), ()), (x.1.length : Int), (0 : Int), ()) S
def en (k : Nat) : Ent PG R := mkFn T_ok Tryz.func67 ps rs (C k) (.seq .auto (.seq (.seq .auto (.block (.piece (L0 k).h))) (.seq .auto (.mask mr .auto)))) ⟨tr, ⟨tr, (L0 k).ok⟩, tr, tr⟩ (fn k) (by kernel_rfl) (by kernel_rfl) (fun x S K => by kernel_rfl)
end G.slices_IndexFunc_s_string_string_at_action_checkOutputs_1
/-! ### 37: slices.ContainsFunc[[]string,string] -/
namespace G.slices_ContainsFunc_s_string_string_at_action_checkOutputs_1
abbrev mr : Mk := n4 (sB (n4 []))
abbrev ps : Mk := sL 1 (sh (.fn 150 [.ptr]) [])
abbrev rs : Mk := sB []
def C (k : Nat) : List (Ent PG R) := [slices_IndexFunc_s_string_string_at_action_checkOutputs_1.en k]
def fn (k : Nat) (x : (LL × ((Nat × Nat) × U1) × U1)) (S : LL) (K : Kt R (Bool × U1)) : Option R :=
  slices_IndexFunc_s_string_string_at_action_checkOutputs_1.fn k (x.1, ((x.2.1.1.1, x.2.1.1.2), ()), ()) S fun r1 S => K ((decide (r1.1 ≥ (0 : Int))), ()) S
def en (k : Nat) : Ent PG R := mkFn T_ok Tryz.func37 ps rs (C k) (.seq .auto (.seq .auto (.mask mr .auto))) ⟨tr, tr, tr⟩ (fn k) (by kernel_rfl) (by kernel_rfl) (fun x S K => by kernel_rfl)
end G.slices_ContainsFunc_s_string_string_at_action_checkOutputs_1
/-! ### 106: smithyard/action.checkOutputs -/
namespace G.action_checkOutputs
abbrev e0 : Mk := sL 1 (nX (nX (nX (nX (n4 [])))))
abbrev e2 : Mk := nX (nX (nX (nX (n5 []))))
abbrev m0 : Mk := sL 1 (nX (n2 (sL 1 (sI (sI (nX (nX (n9 []))))))))
abbrev m1 : Mk := sL 1 (nX (nX (nX (n4 (sL 1 (sI (sI (n7 []))))))))
abbrev mr : Mk := n2 (sI (nX (nX (nX (nX (n2 []))))))
abbrev ps : Mk := sL 1 []
abbrev rs : Mk := sI []
def C (k : Nat) : List (Ent PG R) := [blob_IsPath.en k, slices_ContainsFunc_s_string_string_at_action_checkOutputs_1.en k]
def b1 (k : Nat) (J2 : Kt R (U1)) (Jret : Kt R (Int × U1)) (rec : Kt R (LL × LL × Int × Int × U1)) (x : (LL × LL × Int × Int × U1)) (S : LL) : Option R :=
  ifB (decide (x.2.2.2.1 < x.2.2.1)) (idxL x.2.1 x.2.2.2.1 fun v7 => asStr (leaf v7 0) fun s8 => newObj S (.obj 9 [(.str (bs []))]) fun i9 S => objAt S i9 fun ty c10 => stO c10 0 [(.str s8)] fun c11 => setS (S.set i9 (ty c11)) fun S => slices_ContainsFunc_s_string_string_at_action_checkOutputs_1.fn k (x.1, ((i9, 0), ()), ()) S fun r12 S => ifB r12.1 (Jret ((12 : Int), ()) S) (rec (x.1, x.2.1, x.2.2.1, (IntKind.wrap .i64 (x.2.2.2.1 + (1 : Int))), ()) S)) (J2 (()) S)
def L1 (k : Nat) : Pc PG R (.loop (sub (cd Tryz.f106) [tt,tt,tt,tt,ff,tt,ff,ff])) := mkLoop T_ok (C k) _ m1 k (.seq .auto (.seq (.cond .auto (.mask e2 .auto)) (.seq (.block (.seq (.own [(2, 1), (3, 1)]) (.seq .auto (.cond (.seq .auto (.mask mr .auto)) .auto)))) .auto))) ⟨tr, ⟨tr, tr⟩, ⟨tr, tr, ⟨tr, tr⟩, tr⟩, tr⟩ (fun K => b1 k (fun o S => K (.ext 2) (Qm e2 o S)) (fun o S => K .ret (Qm mr o S))) (fun K rec x S => by kernel_rfl)
def b0 (k : Nat) (J0 : Kt R (LL × U1)) (Jret : Kt R (Int × U1)) (rec : Kt R (LL × LL × Int × Int × U1)) (x : (LL × LL × Int × Int × U1)) (S : LL) : Option R :=
  ifB (decide (x.2.2.2.1 < x.2.2.1)) (idxL x.2.1 x.2.2.2.1 fun v1 => asStr (leaf v1 0) fun s2 => blob_IsPath.fn k (s2, ()) S fun r3 S => ifB (!r3.1) (Jret ((3 : Int), ()) S) (ifB (decide (x.2.2.2.1 > (0 : Int))) (idxL x.1 (IntKind.wrap .i64 (x.2.2.2.1 - (1 : Int))) fun v4 => asStr (leaf v4 0) fun s5 => ifB (strLt s2 s5 || strEq s2 s5) (Jret ((8 : Int), ()) S) (rec (x.1, x.2.1, x.2.2.1, (IntKind.wrap .i64 (x.2.2.2.1 + (1 : Int))), ()) S)) (rec (x.1, x.2.1, x.2.2.1, (IntKind.wrap .i64 (x.2.2.2.1 + (1 : Int))), ()) S))) (J0 (x.1, ()) S)
def L0 (k : Nat) : Pc PG R (.loop (sub (cd Tryz.f106) [tt,tt,tt,ff,tt,ff,ff])) := mkLoop T_ok (C k) _ m0 k (.seq .auto (.seq (.cond .auto (.mask e0 .auto)) (.seq (.block (.seq .auto (.seq (.seq .auto (.cond (.seq .auto (.mask mr .auto)) .auto)) (.seq .auto (.cond (.seq .auto (.mask mr .auto)) .auto))))) .auto))) ⟨tr, ⟨tr, tr⟩, ⟨tr, ⟨tr, ⟨tr, tr⟩, tr⟩, tr, ⟨tr, tr⟩, tr⟩, tr⟩ (fun K => b0 k (fun o S => K (.ext 0) (Qm e0 o S)) (fun o S => K .ret (Qm mr o S))) (fun K rec x S => by kernel_rfl)
def fn0 (k : Nat) (x : (LL × U1)) (S : LL) (K : Kt R (Int × U1)) : Option R :=
  ifB ((x.1.length : Int) == (0 : Int)) (K ((9 : Int), ()) S) (ifB (decide ((x.1.length : Int) > (100 : Int))) (K ((2 : Int), ()) S) (rounds (b0 k (fun o6 S => rounds (b1 k (fun o13 S => K ((0 : Int), ()) S) (fun o14 S => K (o14.1, ()) S)) k (o6.1, o6.1, (o6.1.length : Int), (0 : Int), ()) S) (fun o15 S => K (o15.1, ()) S)) k (x.1, x.1, (x.1.length : Int), (0 : Int), ()) S))
def en0 (k : Nat) : Ent PG R := mkFn T_ok Tryz.func106 ps rs (C k) (.seq .auto (.seq (.seq .auto (.cond (.seq .auto (.mask mr .auto)) .auto)) (.seq (.seq .auto (.cond (.seq .auto (.mask mr .auto)) .auto)) (.seq (.seq .auto (.block (.piece (L0 k).h))) (.seq (.seq .auto (.block (.piece (L1 k).h))) (.seq .auto (.mask mr .auto))))))) ⟨tr, ⟨tr, ⟨tr, tr⟩, tr⟩, ⟨tr, ⟨tr, tr⟩, tr⟩, ⟨tr, (L0 k).ok⟩, ⟨tr, (L1 k).ok⟩, tr, tr⟩ (fn0 k) (by kernel_rfl) (by kernel_rfl) (fun x S K => by kernel_rfl)
def fn (k : Nat) (x : (LL × U1)) (S : LL) (K : Kt R (Int × U1)) : Option R := popK rs 6 S (fn0 k x S fun r S => some (resE rs r, S)) K
def en (k : Nat) : Ent PG R := mkPop (rs := rs) (en0 k).ok
end G.action_checkOutputs
/-! ### 75: smithyard/action.CheckAction -/
namespace G.action_CheckAction
abbrev e0 : Mk := n1 (sX [.str, .sl 1, .sl 2, .sl 1, .sl 2, jI] (nX (nX (nX (nX (nX (n8 [])))))))
abbrev m0 : Mk := n1 (sX [.str, .sl 1, .sl 2, .sl 1, .sl 2, jI] (nX (nX (sL 1 (sI (sI (nX (nX (nX (n5 []))))))))))
abbrev mr : Mk := n2 (sI (nX (nX (nX (nX (nX (n7 [])))))))
abbrev ps : Mk := sA [.str, .sl 1, .sl 2, .sl 1, .sl 2, jI] []
abbrev rs : Mk := sI []
def C (k : Nat) : List (Ent PG R) := [blob_IsDigest.en k, action_checkCommand.en k, action_checkVars.en k, action_checkOutputs.en k]
def b0 (k : Nat) (J0 : Kt R ((BA × LL × LL × LL × LL × Int × U1) × U1)) (Jret : Kt R (Int × U1)) (rec : Kt R ((BA × LL × LL × LL × LL × Int × U1) × LL × Int × Int × U1)) (x : ((BA × LL × LL × LL × LL × Int × U1) × LL × Int × Int × U1)) (S : LL) : Option R :=
  ifB (decide (x.2.2.2.1 < x.2.2.1)) (idxL x.2.1 x.2.2.2.1 fun v2 => asSl 1 (leaf v2 0) fun l3 => action_checkCommand.fn k (l3, ()) S fun r4 S => ifB (r4.1 != (0 : Int)) (Jret (r4.1, ()) S) (rec ((x.1.1, x.1.2.1, x.1.2.2.1, x.1.2.2.2.1, x.1.2.2.2.2.1, x.1.2.2.2.2.2.1, ()), x.2.1, x.2.2.1, (IntKind.wrap .i64 (x.2.2.2.1 + (1 : Int))), ()) S)) (J0 ((x.1.1, x.1.2.1, x.1.2.2.1, x.1.2.2.2.1, x.1.2.2.2.2.1, x.1.2.2.2.2.2.1, ()), ()) S)
def L0 (k : Nat) : Pc PG R (.loop (sub (cd Tryz.f75) [tt,tt,tt,tt,ff,tt,ff,ff])) := mkLoop T_ok (C k) _ m0 k (.seq .auto (.seq (.cond .auto (.mask e0 .auto)) (.seq (.block (.seq .auto (.seq .auto (.seq .auto (.cond (.seq .auto (.mask mr .auto)) .auto))))) .auto))) ⟨tr, ⟨tr, tr⟩, ⟨tr, tr, tr, ⟨tr, tr⟩, tr⟩, tr⟩ (fun K => b0 k (fun o S => K (.ext 0) (Qm e0 o S)) (fun o S => K .ret (Qm mr o S))) (fun K rec x S => by kernel_rfl)
def fn (k : Nat) (x : ((BA × LL × LL × LL × LL × Int × U1) × U1)) (S : LL) (K : Kt R (Int × U1)) : Option R :=
  blob_IsDigest.fn k (x.1.1, ()) S fun r1 S => ifB (!r1.1) (K ((3 : Int), ()) S) (ifB ((x.1.2.1.length : Int) == (0 : Int)) (K ((9 : Int), ()) S) (ifB (decide ((x.1.2.1.length : Int) > (50 : Int))) (K ((2 : Int), ()) S) (rounds (b0 k (fun o5 S => action_checkVars.fn k (o5.1.2.2.1, ()) S fun r6 S => ifB (r6.1 != (0 : Int)) (K (r6.1, ()) S) (action_checkOutputs.fn k (o5.1.2.2.2.1, ()) S fun r7 S => ifB (r7.1 != (0 : Int)) (K (r7.1, ()) S) (action_checkVars.fn k (o5.1.2.2.2.2.1, ()) S fun r8 S => ifB (r8.1 != (0 : Int)) (K (r8.1, ()) S) (ifB (decide (o5.1.2.2.2.2.2.1 < (1 : Int))) (K ((1 : Int), ()) S) (ifB (decide (o5.1.2.2.2.2.2.1 > (100000 : Int))) (K ((1 : Int), ()) S) (K ((0 : Int), ()) S)))))) (fun o9 S => K (o9.1, ()) S)) k ((x.1.1, x.1.2.1, x.1.2.2.1, x.1.2.2.2.1, x.1.2.2.2.2.1, x.1.2.2.2.2.2.1, ()), x.1.2.1, (x.1.2.1.length : Int), (0 : Int), ()) S)))
def en (k : Nat) : Ent PG R := mkFn T_ok Tryz.func75 ps rs (C k) (.seq .auto (.seq (.seq .auto (.cond (.seq .auto (.mask mr .auto)) .auto)) (.seq (.seq .auto (.cond (.seq .auto (.mask mr .auto)) .auto)) (.seq (.seq .auto (.cond (.seq .auto (.mask mr .auto)) .auto)) (.seq (.seq .auto (.block (.piece (L0 k).h))) (.seq (.seq .auto (.seq .auto (.cond (.seq .auto (.mask mr .auto)) .auto))) (.seq (.seq .auto (.seq .auto (.cond (.seq .auto (.mask mr .auto)) .auto))) (.seq (.seq .auto (.seq .auto (.cond (.seq .auto (.mask mr .auto)) .auto))) (.seq (.seq .auto (.cond (.seq .auto (.mask mr .auto)) .auto)) (.seq .auto (.mask mr .auto))))))))))) ⟨tr, ⟨tr, ⟨tr, tr⟩, tr⟩, ⟨tr, ⟨tr, tr⟩, tr⟩, ⟨tr, ⟨tr, tr⟩, tr⟩, ⟨tr, (L0 k).ok⟩, ⟨tr, tr, ⟨tr, tr⟩, tr⟩, ⟨tr, tr, ⟨tr, tr⟩, tr⟩, ⟨tr, tr, ⟨tr, tr⟩, tr⟩, ⟨tr, ⟨tr, tr⟩, tr⟩, tr, tr⟩ (fn k) (by kernel_rfl) (by kernel_rfl) (fun x S K => by kernel_rfl)
end G.action_CheckAction
/-! ### 48: smithyard/steps.checkRule -/
namespace G.steps_checkRule
abbrev e0 : Mk := nX (nX (nX (nX (n4 []))))
abbrev m0 : Mk := n1 (sX [.str, .str, .sl 1, .sl 2, .sl 1, .sl 2, jI, .sl 1] (nX (n9 (sL 1 (sI (sI (nX (nX []))))))))
abbrev mr : Mk := n2 (sI (nX (nX (nX (nX (n1 []))))))
abbrev ps : Mk := sA [.str, .str, .sl 1, .sl 2, .sl 1, .sl 2, jI, .sl 1] []
abbrev rs : Mk := sI []
def C (k : Nat) : List (Ent PG R) := [blob_IsPath.en k, action_CheckAction.en k]
def b0 (k : Nat) (J0 : Kt R (U1)) (Jret : Kt R (Int × U1)) (rec : Kt R ((BA × BA × LL × LL × LL × LL × Int × LL × U1) × LL × Int × Int × U1)) (x : ((BA × BA × LL × LL × LL × LL × Int × LL × U1) × LL × Int × Int × U1)) (S : LL) : Option R :=
  ifB (decide (x.2.2.2.1 < x.2.2.1)) (idxL x.2.1 x.2.2.2.1 fun v3 => asStr (leaf v3 0) fun s4 => blob_IsPath.fn k (s4, ()) S fun r5 S => ifB (!r5.1) (Jret ((3 : Int), ()) S) (ifB (decide (x.2.2.2.1 > (0 : Int))) (idxL x.1.2.2.2.2.2.2.2.1 (IntKind.wrap .i64 (x.2.2.2.1 - (1 : Int))) fun v6 => asStr (leaf v6 0) fun s7 => ifB (strLt s4 s7 || strEq s4 s7) (Jret ((8 : Int), ()) S) (rec ((x.1.1, x.1.2.1, x.1.2.2.1, x.1.2.2.2.1, x.1.2.2.2.2.1, x.1.2.2.2.2.2.1, x.1.2.2.2.2.2.2.1, x.1.2.2.2.2.2.2.2.1, ()), x.2.1, x.2.2.1, (IntKind.wrap .i64 (x.2.2.2.1 + (1 : Int))), ()) S)) (rec ((x.1.1, x.1.2.1, x.1.2.2.1, x.1.2.2.2.1, x.1.2.2.2.2.1, x.1.2.2.2.2.2.1, x.1.2.2.2.2.2.2.1, x.1.2.2.2.2.2.2.2.1, ()), x.2.1, x.2.2.1, (IntKind.wrap .i64 (x.2.2.2.1 + (1 : Int))), ()) S))) (J0 (()) S)
def L0 (k : Nat) : Pc PG R (.loop (sub (cd Tryz.f48) [tt,tt,tt,tt,ff,tt,ff,ff])) := mkLoop T_ok (C k) _ m0 k (.seq .auto (.seq (.cond .auto (.mask e0 .auto)) (.seq (.block (.seq .auto (.seq (.seq .auto (.cond (.seq .auto (.mask mr .auto)) .auto)) (.seq .auto (.cond (.seq .auto (.mask mr .auto)) .auto))))) .auto))) ⟨tr, ⟨tr, tr⟩, ⟨tr, ⟨tr, ⟨tr, tr⟩, tr⟩, tr, ⟨tr, tr⟩, tr⟩, tr⟩ (fun K => b0 k (fun o S => K (.ext 0) (Qm e0 o S)) (fun o S => K .ret (Qm mr o S))) (fun K rec x S => by kernel_rfl)
def fn (k : Nat) (x : ((BA × BA × LL × LL × LL × LL × Int × LL × U1) × U1)) (S : LL) (K : Kt R (Int × U1)) : Option R :=
  blob_IsPath.fn k (x.1.1, ()) S fun r1 S => ifB (!r1.1) (K ((3 : Int), ()) S) (action_CheckAction.fn k ((x.1.2.1, x.1.2.2.1, x.1.2.2.2.1, x.1.2.2.2.2.1, x.1.2.2.2.2.2.1, x.1.2.2.2.2.2.2.1, ()), ()) S fun r2 S => ifB (r2.1 != (0 : Int)) (K (r2.1, ()) S) (ifB (decide ((x.1.2.2.2.2.2.2.2.1.length : Int) > (1000 : Int))) (K ((2 : Int), ()) S) (rounds (b0 k (fun o8 S => K ((0 : Int), ()) S) (fun o9 S => K (o9.1, ()) S)) k ((x.1.1, x.1.2.1, x.1.2.2.1, x.1.2.2.2.1, x.1.2.2.2.2.1, x.1.2.2.2.2.2.1, x.1.2.2.2.2.2.2.1, x.1.2.2.2.2.2.2.2.1, ()), x.1.2.2.2.2.2.2.2.1, (x.1.2.2.2.2.2.2.2.1.length : Int), (0 : Int), ()) S)))
def en (k : Nat) : Ent PG R := mkFn T_ok Tryz.func48 ps rs (C k) (.seq .auto (.seq (.seq .auto (.cond (.seq .auto (.mask mr .auto)) .auto)) (.seq (.seq .auto (.seq .auto (.cond (.seq .auto (.mask mr .auto)) .auto))) (.seq (.seq .auto (.cond (.seq .auto (.mask mr .auto)) .auto)) (.seq (.seq .auto (.block (.piece (L0 k).h))) (.seq .auto (.mask mr .auto))))))) ⟨tr, ⟨tr, ⟨tr, tr⟩, tr⟩, ⟨tr, tr, ⟨tr, tr⟩, tr⟩, ⟨tr, ⟨tr, tr⟩, tr⟩, ⟨tr, (L0 k).ok⟩, tr, tr⟩ (fn k) (by kernel_rfl) (by kernel_rfl) (fun x S K => by kernel_rfl)
end G.steps_checkRule
/-! ### 76: smithyard/steps.above -/
namespace G.steps_above
abbrev e0 : Mk := n3 (sO 9 1 (nX (n8 [])))
abbrev m0 : Mk := sS (n2 (sO 9 1 (n2 (sI (sI (nX (n4 [])))))))
abbrev mr : Mk := n2 (sO 9 1 (nX (n9 [])))
abbrev ps : Mk := sS []
abbrev rs : Mk := sO 9 1 []
def C (k : Nat) : List (Ent PG R) := []
def b0 (k : Nat) (J0 : Kt R (LL × U1)) (rec : Kt R (BA × LL × Int × Int × U1)) (x : (BA × LL × Int × Int × U1)) (S : LL) : Option R :=
  ifB (decide (x.2.2.2.1 < x.2.2.1)) (idxStr x.1 x.2.2.2.1 fun c1 => ifB (c1 == (47 : Int)) (slStr x.1 (0 : Int) x.2.2.2.1 fun s2 => app 16 x.2.1 [(.str s2)] fun l3 => rec (x.1, l3, x.2.2.1, (IntKind.wrap .i64 (x.2.2.2.1 + (1 : Int))), ()) S) (rec (x.1, x.2.1, x.2.2.1, (IntKind.wrap .i64 (x.2.2.2.1 + (1 : Int))), ()) S)) (J0 (x.2.1, ()) S)
def L0 (k : Nat) : Pc PG R (.loop (sub (cd Tryz.f76) [tt,tt,ff,tt,ff,ff])) := mkLoop T_ok (C k) _ m0 k (.seq .auto (.seq (.cond .auto (.mask e0 .auto)) (.seq (.block (.seq .auto (.seq .auto (.cond (.own [(0, 1)]) .auto)))) .auto))) ⟨tr, ⟨tr, tr⟩, ⟨tr, tr, tr, tr⟩, tr⟩ (fun K => b0 k (fun o S => K (.ext 0) (Qm e0 o S))) (fun K rec x S => by kernel_rfl)
def fn (k : Nat) (x : (BA × U1)) (S : LL) (K : Kt R (LL × U1)) : Option R :=
  rounds (b0 k (fun o4 S => K (o4.1, ()) S)) k (x.1, [], (x.1.size : Int), (0 : Int), ()) S
def en (k : Nat) : Ent PG R := mkFn T_ok Tryz.func76 ps rs (C k) (.seq .auto (.seq .auto (.seq (.seq .auto (.block (.piece (L0 k).h))) (.seq (.own [(0, 1)]) (.mask mr .auto))))) ⟨tr, tr, ⟨tr, (L0 k).ok⟩, tr, tr⟩ (fn k) (by kernel_rfl) (by kernel_rfl) (fun x S K => by kernel_rfl)
end G.steps_above
/-! ### 49: smithyard/steps.tangleOf -/
namespace G.steps_tangleOf
abbrev e0 : Mk := n2 (sX [.nilm, .nilm, .nilm, .nilm] (sX [.map, .map, .map, .map] (nX (nX (nX (nX (nX (nX (n8 [])))))))))
abbrev e2 : Mk := n2 (sX [.nilm, .nilm, .nilm, .nilm] (sX [.map, .map, .map, .map] (n1 (sX [.str, .str, .sl 1, .sl 2, .sl 1, .sl 2, jI, .sl 1] (nX (n3 (sL 8 (sI (sI (nX (nX (nX (nX (nX []))))))))))))))
abbrev e4 : Mk := n2 (sX [.nilm, .nilm, .nilm, .nilm] (sX [.map, .map, .map, .map] (n1 (sX [.str, .str, .sl 1, .sl 2, .sl 1, .sl 2, jI, .sl 1] (nX (n3 (sL 8 (sI (sI (n5 (sL 1 (sI (sI (nX (nX (nX (nX (n2 []))))))))))))))))))
abbrev e6 : Mk := n2 (sX [.nilm, .nilm, .nilm, .nilm] (sX [.map, .map, .map, .map] (nX (n5 (sL 8 (sI (sI (nX (nX (nX (nX (nX []))))))))))))
abbrev e8 : Mk := n2 (sX [.nilm, .nilm, .nilm, .nilm] (sX [.map, .map, .map, .map] (nX (n5 (sL 8 (sI (sI (nX (nX (n7 (sL 1 (sI (sI (nX (nX [])))))))))))))))
abbrev m0 : Mk := n2 (sX [.nilm, .nilm, .nilm, .nilm] (sX [.map, .map, .map, .map] (nX (n5 (sL 8 (sI (sI (nX (nX (nX (nX (nX []))))))))))))
abbrev m1 : Mk := n2 (sX [.nilm, .nilm, .nilm, .nilm] (sX [.map, .map, .map, .map] (n1 (sX [.str, .str, .sl 1, .sl 2, .sl 1, .sl 2, jI, .sl 1] (nX (n3 (sL 8 (sI (sI (n5 (sL 1 (sI (sI (nX (nX (nX (nX (n2 []))))))))))))))))))
abbrev m2 : Mk := n2 (sX [.nilm, .nilm, .nilm, .nilm] (sX [.map, .map, .map, .map] (n1 (sX [.str, .str, .sl 1, .sl 2, .sl 1, .sl 2, jI, .sl 1] (nX (n3 (sL 8 (sI (sI (n5 (sL 1 (sI (sI (n7 (sO 9 1 (sI (sI (nX (nX (nX (n2 [])))))))))))))))))))))
abbrev m3 : Mk := n2 (sX [.nilm, .nilm, .nilm, .nilm] (sX [.map, .map, .map, .map] (nX (n5 (sL 8 (sI (sI (nX (nX (n7 (sL 1 (sI (sI (nX (nX [])))))))))))))))
abbrev m4 : Mk := n2 (sX [.nilm, .nilm, .nilm, .nilm] (sX [.map, .map, .map, .map] (nX (n5 (sL 8 (sI (sI (nX (nX (n7 (sL 1 (sI (sI (n7 (sO 9 1 (sI (sI (nX []))))))))))))))))))
abbrev mr : Mk := n2 (sX [.map, .map, .map, .map] (nX (nX (nX (nX (nX (nX (n9 []))))))))
abbrev ps : Mk := sL 8 []
abbrev rs : Mk := sA [.map, .map, .map, .map] []
def C (k : Nat) : List (Ent PG R) := [steps_above.en k]
def b2 (k : Nat) (J4 : Kt R ((U1 × U1 × U1 × U1 × U1) × (Nat × Nat × Nat × Nat × U1) × (BA × BA × LL × LL × LL × LL × Int × LL × U1) × LL × Int × Int × LL × Int × Int × U1)) (rec : Kt R ((U1 × U1 × U1 × U1 × U1) × (Nat × Nat × Nat × Nat × U1) × (BA × BA × LL × LL × LL × LL × Int × LL × U1) × LL × Int × Int × LL × Int × Int × LL × Int × Int × U1)) (x : ((U1 × U1 × U1 × U1 × U1) × (Nat × Nat × Nat × Nat × U1) × (BA × BA × LL × LL × LL × LL × Int × LL × U1) × LL × Int × Int × LL × Int × Int × LL × Int × Int × U1)) (S : LL) : Option R :=
  ifB (decide (x.2.2.2.2.2.2.2.2.2.2.2.1 < x.2.2.2.2.2.2.2.2.2.2.1)) (idxL x.2.2.2.2.2.2.2.2.2.1 x.2.2.2.2.2.2.2.2.2.2.2.1 fun v19 => asStr (leaf v19 0) fun s20 => mpAt S x.2.1.2.2.1 .str fun m21 => setS (S.set x.2.1.2.2.1 (.mp .str (mapPut m21 (.str s20) (.bool true)))) fun S => rec (((), (), (), (), ()), (x.2.1.1, x.2.1.2.1, x.2.1.2.2.1, x.2.1.2.2.2.1, ()), (x.2.2.1.1, x.2.2.1.2.1, x.2.2.1.2.2.1, x.2.2.1.2.2.2.1, x.2.2.1.2.2.2.2.1, x.2.2.1.2.2.2.2.2.1, x.2.2.1.2.2.2.2.2.2.1, x.2.2.1.2.2.2.2.2.2.2.1, ()), x.2.2.2.1, x.2.2.2.2.1, x.2.2.2.2.2.1, x.2.2.2.2.2.2.1, x.2.2.2.2.2.2.2.1, x.2.2.2.2.2.2.2.2.1, x.2.2.2.2.2.2.2.2.2.1, x.2.2.2.2.2.2.2.2.2.2.1, (IntKind.wrap .i64 (x.2.2.2.2.2.2.2.2.2.2.2.1 + (1 : Int))), ()) S) (J4 (((), (), (), (), ()), (x.2.1.1, x.2.1.2.1, x.2.1.2.2.1, x.2.1.2.2.2.1, ()), (x.2.2.1.1, x.2.2.1.2.1, x.2.2.1.2.2.1, x.2.2.1.2.2.2.1, x.2.2.1.2.2.2.2.1, x.2.2.1.2.2.2.2.2.1, x.2.2.1.2.2.2.2.2.2.1, x.2.2.1.2.2.2.2.2.2.2.1, ()), x.2.2.2.1, x.2.2.2.2.1, x.2.2.2.2.2.1, x.2.2.2.2.2.2.1, x.2.2.2.2.2.2.2.1, x.2.2.2.2.2.2.2.2.1, ()) S)
def L2 (k : Nat) : Pc PG R (.loop (sub (cd Tryz.f49) [tt,tt,ff,tt,ff,ff,tt,tt,ff,ff,tt,ff,tt,ff,ff,tt,tt,ff,ff,tt,tt,tt,ff,ff])) := mkLoop T_ok (C k) _ m2 k (.seq .auto (.seq (.cond .auto (.mask e4 .auto)) (.seq (.block (.seq .auto .auto)) .auto))) ⟨tr, ⟨tr, tr⟩, ⟨tr, tr⟩, tr⟩ (fun K => b2 k (fun o S => K (.ext 4) (Qm e4 o S))) (fun K rec x S => by kernel_rfl)
def b4 (k : Nat) (J8 : Kt R ((U1 × U1 × U1 × U1 × U1) × (Nat × Nat × Nat × Nat × U1) × LL × Int × Int × LL × Int × Int × U1)) (rec : Kt R ((U1 × U1 × U1 × U1 × U1) × (Nat × Nat × Nat × Nat × U1) × LL × Int × Int × LL × Int × Int × LL × Int × Int × U1)) (x : ((U1 × U1 × U1 × U1 × U1) × (Nat × Nat × Nat × Nat × U1) × LL × Int × Int × LL × Int × Int × LL × Int × Int × U1)) (S : LL) : Option R :=
  ifB (decide (x.2.2.2.2.2.2.2.2.2.2.1 < x.2.2.2.2.2.2.2.2.2.1)) (idxL x.2.2.2.2.2.2.2.2.1 x.2.2.2.2.2.2.2.2.2.2.1 fun v28 => asStr (leaf v28 0) fun s29 => mpAt S x.2.1.2.2.2.1 .str fun m30 => setS (S.set x.2.1.2.2.2.1 (.mp .str (mapPut m30 (.str s29) (.bool true)))) fun S => rec (((), (), (), (), ()), (x.2.1.1, x.2.1.2.1, x.2.1.2.2.1, x.2.1.2.2.2.1, ()), x.2.2.1, x.2.2.2.1, x.2.2.2.2.1, x.2.2.2.2.2.1, x.2.2.2.2.2.2.1, x.2.2.2.2.2.2.2.1, x.2.2.2.2.2.2.2.2.1, x.2.2.2.2.2.2.2.2.2.1, (IntKind.wrap .i64 (x.2.2.2.2.2.2.2.2.2.2.1 + (1 : Int))), ()) S) (J8 (((), (), (), (), ()), (x.2.1.1, x.2.1.2.1, x.2.1.2.2.1, x.2.1.2.2.2.1, ()), x.2.2.1, x.2.2.2.1, x.2.2.2.2.1, x.2.2.2.2.2.1, x.2.2.2.2.2.2.1, x.2.2.2.2.2.2.2.1, ()) S)
def L4 (k : Nat) : Pc PG R (.loop (sub (cd Tryz.f49) [tt,tt,ff,tt,ff,ff,tt,tt,ff,ff,tt,tt,tt,ff,ff,tt,tt,ff,ff,tt,tt,tt,ff,ff])) := mkLoop T_ok (C k) _ m4 k (.seq .auto (.seq (.cond .auto (.mask e8 .auto)) (.seq (.block (.seq .auto .auto)) .auto))) ⟨tr, ⟨tr, tr⟩, ⟨tr, tr⟩, tr⟩ (fun K => b4 k (fun o S => K (.ext 8) (Qm e8 o S))) (fun K rec x S => by kernel_rfl)
def b1 (k : Nat) (J2 : Kt R ((U1 × U1 × U1 × U1 × U1) × (Nat × Nat × Nat × Nat × U1) × (BA × BA × LL × LL × LL × LL × Int × LL × U1) × LL × Int × Int × U1)) (rec : Kt R ((U1 × U1 × U1 × U1 × U1) × (Nat × Nat × Nat × Nat × U1) × (BA × BA × LL × LL × LL × LL × Int × LL × U1) × LL × Int × Int × LL × Int × Int × U1)) (x : ((U1 × U1 × U1 × U1 × U1) × (Nat × Nat × Nat × Nat × U1) × (BA × BA × LL × LL × LL × LL × Int × LL × U1) × LL × Int × Int × LL × Int × Int × U1)) (S : LL) : Option R :=
  ifB (decide (x.2.2.2.2.2.2.2.2.1 < x.2.2.2.2.2.2.2.1)) (idxL x.2.2.2.2.2.2.1 x.2.2.2.2.2.2.2.2.1 fun v15 => asStr (leaf v15 0) fun s16 => mpAt S x.2.1.1 .str fun m17 => setS (S.set x.2.1.1 (.mp .str (mapPut m17 (.str s16) (.bool true)))) fun S => steps_above.fn k (s16, ()) S fun r18 S => rounds (b2 k (fun o22 S => rec (((), (), (), (), ()), (o22.2.1.1, o22.2.1.2.1, o22.2.1.2.2.1, o22.2.1.2.2.2.1, ()), (o22.2.2.1.1, o22.2.2.1.2.1, o22.2.2.1.2.2.1, o22.2.2.1.2.2.2.1, o22.2.2.1.2.2.2.2.1, o22.2.2.1.2.2.2.2.2.1, o22.2.2.1.2.2.2.2.2.2.1, o22.2.2.1.2.2.2.2.2.2.2.1, ()), o22.2.2.2.1, o22.2.2.2.2.1, o22.2.2.2.2.2.1, o22.2.2.2.2.2.2.1, o22.2.2.2.2.2.2.2.1, (IntKind.wrap .i64 (o22.2.2.2.2.2.2.2.2.1 + (1 : Int))), ()) S)) k (((), (), (), (), ()), (x.2.1.1, x.2.1.2.1, x.2.1.2.2.1, x.2.1.2.2.2.1, ()), (x.2.2.1.1, x.2.2.1.2.1, x.2.2.1.2.2.1, x.2.2.1.2.2.2.1, x.2.2.1.2.2.2.2.1, x.2.2.1.2.2.2.2.2.1, x.2.2.1.2.2.2.2.2.2.1, x.2.2.1.2.2.2.2.2.2.2.1, ()), x.2.2.2.1, x.2.2.2.2.1, x.2.2.2.2.2.1, x.2.2.2.2.2.2.1, x.2.2.2.2.2.2.2.1, x.2.2.2.2.2.2.2.2.1, r18.1, (r18.1.length : Int), (0 : Int), ()) S) (J2 (((), (), (), (), ()), (x.2.1.1, x.2.1.2.1, x.2.1.2.2.1, x.2.1.2.2.2.1, ()), (x.2.2.1.1, x.2.2.1.2.1, x.2.2.1.2.2.1, x.2.2.1.2.2.2.1, x.2.2.1.2.2.2.2.1, x.2.2.1.2.2.2.2.2.1, x.2.2.1.2.2.2.2.2.2.1, x.2.2.1.2.2.2.2.2.2.2.1, ()), x.2.2.2.1, x.2.2.2.2.1, x.2.2.2.2.2.1, ()) S)
def L1 (k : Nat) : Pc PG R (.loop (sub (cd Tryz.f49) [tt,tt,ff,tt,ff,ff,tt,tt,ff,ff,tt,ff,tt,ff,ff])) := mkLoop T_ok (C k) _ m1 k (.seq .auto (.seq (.cond .auto (.mask e2 .auto)) (.seq (.block (.seq .auto (.seq .auto (.seq .auto (.block (.piece (L2 k).h)))))) .auto))) ⟨tr, ⟨tr, tr⟩, ⟨tr, tr, tr, (L2 k).ok⟩, tr⟩ (fun K => b1 k (fun o S => K (.ext 2) (Qm e2 o S))) (fun K rec x S => by kernel_rfl)
def b3 (k : Nat) (J6 : Kt R ((U1 × U1 × U1 × U1 × U1) × (Nat × Nat × Nat × Nat × U1) × LL × Int × Int × U1)) (rec : Kt R ((U1 × U1 × U1 × U1 × U1) × (Nat × Nat × Nat × Nat × U1) × LL × Int × Int × LL × Int × Int × U1)) (x : ((U1 × U1 × U1 × U1 × U1) × (Nat × Nat × Nat × Nat × U1) × LL × Int × Int × LL × Int × Int × U1)) (S : LL) : Option R :=
  ifB (decide (x.2.2.2.2.2.2.2.1 < x.2.2.2.2.2.2.1)) (idxL x.2.2.2.2.2.1 x.2.2.2.2.2.2.2.1 fun v24 => asStr (leaf v24 0) fun s25 => mpAt S x.2.1.2.1 .str fun m26 => setS (S.set x.2.1.2.1 (.mp .str (mapPut m26 (.str s25) (.bool true)))) fun S => steps_above.fn k (s25, ()) S fun r27 S => rounds (b4 k (fun o31 S => rec (((), (), (), (), ()), (o31.2.1.1, o31.2.1.2.1, o31.2.1.2.2.1, o31.2.1.2.2.2.1, ()), o31.2.2.1, o31.2.2.2.1, o31.2.2.2.2.1, o31.2.2.2.2.2.1, o31.2.2.2.2.2.2.1, (IntKind.wrap .i64 (o31.2.2.2.2.2.2.2.1 + (1 : Int))), ()) S)) k (((), (), (), (), ()), (x.2.1.1, x.2.1.2.1, x.2.1.2.2.1, x.2.1.2.2.2.1, ()), x.2.2.1, x.2.2.2.1, x.2.2.2.2.1, x.2.2.2.2.2.1, x.2.2.2.2.2.2.1, x.2.2.2.2.2.2.2.1, r27.1, (r27.1.length : Int), (0 : Int), ()) S) (J6 (((), (), (), (), ()), (x.2.1.1, x.2.1.2.1, x.2.1.2.2.1, x.2.1.2.2.2.1, ()), x.2.2.1, x.2.2.2.1, x.2.2.2.2.1, ()) S)
def L3 (k : Nat) : Pc PG R (.loop (sub (cd Tryz.f49) [tt,tt,ff,tt,ff,ff,tt,tt,ff,ff,tt,tt,tt,ff,ff])) := mkLoop T_ok (C k) _ m3 k (.seq .auto (.seq (.cond .auto (.mask e6 .auto)) (.seq (.block (.seq .auto (.seq .auto (.seq .auto (.block (.piece (L4 k).h)))))) .auto))) ⟨tr, ⟨tr, tr⟩, ⟨tr, tr, tr, (L4 k).ok⟩, tr⟩ (fun K => b3 k (fun o S => K (.ext 6) (Qm e6 o S))) (fun K rec x S => by kernel_rfl)
def b0 (k : Nat) (J0 : Kt R ((U1 × U1 × U1 × U1 × U1) × (Nat × Nat × Nat × Nat × U1) × U1)) (rec : Kt R ((U1 × U1 × U1 × U1 × U1) × (Nat × Nat × Nat × Nat × U1) × LL × Int × Int × U1)) (x : ((U1 × U1 × U1 × U1 × U1) × (Nat × Nat × Nat × Nat × U1) × LL × Int × Int × U1)) (S : LL) : Option R :=
  ifB (decide (x.2.2.2.2.1 < x.2.2.2.1)) (idxL x.2.2.1 x.2.2.2.2.1 fun v5 => mat 8 v5 fun c6 => asStr (c6.getD 0 .any) fun s7 => asStr (c6.getD 1 .any) fun s8 => asSl 1 (c6.getD 2 .any) fun l9 => asSl 2 (c6.getD 3 .any) fun l10 => asSl 1 (c6.getD 4 .any) fun l11 => asSl 2 (c6.getD 5 .any) fun l12 => asInt .i64 (c6.getD 6 .any) fun n13 => asSl 1 (c6.getD 7 .any) fun l14 => rounds (b1 k (fun o23 S => rounds (b3 k (fun o32 S => rec (((), (), (), (), ()), (o32.2.1.1, o32.2.1.2.1, o32.2.1.2.2.1, o32.2.1.2.2.2.1, ()), o32.2.2.1, o32.2.2.2.1, (IntKind.wrap .i64 (o32.2.2.2.2.1 + (1 : Int))), ()) S)) k (((), (), (), (), ()), (o23.2.1.1, o23.2.1.2.1, o23.2.1.2.2.1, o23.2.1.2.2.2.1, ()), o23.2.2.2.1, o23.2.2.2.2.1, o23.2.2.2.2.2.1, o23.2.2.1.2.2.2.2.2.2.2.1, (o23.2.2.1.2.2.2.2.2.2.2.1.length : Int), (0 : Int), ()) S)) k (((), (), (), (), ()), (x.2.1.1, x.2.1.2.1, x.2.1.2.2.1, x.2.1.2.2.2.1, ()), (s7, s8, l9, l10, l11, l12, n13, l14, ()), x.2.2.1, x.2.2.2.1, x.2.2.2.2.1, l11, (l11.length : Int), (0 : Int), ()) S) (J0 (((), (), (), (), ()), (x.2.1.1, x.2.1.2.1, x.2.1.2.2.1, x.2.1.2.2.2.1, ()), ()) S)
def L0 (k : Nat) : Pc PG R (.loop (sub (cd Tryz.f49) [tt,tt,ff,tt,ff,ff])) := mkLoop T_ok (C k) _ m0 k (.seq .auto (.seq (.cond .auto (.mask e0 .auto)) (.seq (.block (.seq .auto (.seq (.seq .auto (.block (.piece (L1 k).h))) (.seq .auto (.block (.piece (L3 k).h)))))) .auto))) ⟨tr, ⟨tr, tr⟩, ⟨tr, ⟨tr, (L1 k).ok⟩, tr, (L3 k).ok⟩, tr⟩ (fun K => b0 k (fun o S => K (.ext 0) (Qm e0 o S))) (fun K rec x S => by kernel_rfl)
def fn (k : Nat) (x : (LL × U1)) (S : LL) (K : Kt R ((Nat × Nat × Nat × Nat × U1) × U1)) : Option R :=
  newObj S (.mp .str []) fun i1 S => newObj S (.mp .str []) fun i2 S => newObj S (.mp .str []) fun i3 S => newObj S (.mp .str []) fun i4 S => rounds (b0 k (fun o33 S => K ((o33.2.1.1, o33.2.1.2.1, o33.2.1.2.2.1, o33.2.1.2.2.2.1, ()), ()) S)) k (((), (), (), (), ()), (i1, i2, i3, i4, ()), x.1, (x.1.length : Int), (0 : Int), ()) S
def en (k : Nat) : Ent PG R := mkFn T_ok Tryz.func49 ps rs (C k) (.seq .auto (.seq .auto (.seq (.seq .auto (.block (.piece (L0 k).h))) (.seq .auto (.mask mr .auto))))) ⟨tr, tr, ⟨tr, (L0 k).ok⟩, tr, tr⟩ (fn k) (by kernel_rfl) (by kernel_rfl) (fun x S K => by kernel_rfl)
end G.steps_tangleOf
/-! ### 77: (smithyard/steps.tangle).clashes$1 -/
namespace G.steps_tangle_clashes_1
abbrev mr : Mk := n3 (sB (nX []))
abbrev ps : Mk := sS (sP [])
abbrev rs : Mk := sB []
def C (k : Nat) : List (Ent PG R) := []
def fn (k : Nat) (x : (BA × (Nat × Nat) × U1)) (S : LL) (K : Kt R (Bool × U1)) : Option R :=
  objAt S x.2.1.1 fun ty c1 => ldRaw c1 (x.2.1.2 + 0) fun v2 => asMap v2 fun i3 => mpAt S i3 .str fun m4 => asBool ((mapGet m4 (.str x.1)).getD (.bool false)) fun b5 => ifB b5 (K (true, ()) S) (objAt S x.2.1.1 fun ty c6 => ldRaw c6 (x.2.1.2 + 1) fun v7 => asMap v7 fun i8 => mpAt S i8 .str fun m9 => asBool ((mapGet m9 (.str x.1)).getD (.bool false)) fun b10 => K (b10, ()) S)
def en (k : Nat) : Ent PG R := mkFn T_ok Tryz.func77 ps rs (C k) (.seq .auto (.seq (.own [(1, 3), (6, 3)]) (.mask mr .auto))) ⟨tr, tr, tr⟩ (fn k) (by kernel_rfl) (by kernel_rfl) (fun x S K => by kernel_rfl)
end G.steps_tangle_clashes_1
/-! ### 67: slices.IndexFunc[[]string,string] -/
namespace G.slices_IndexFunc_s_string_string_at_steps_tangle_clashes_1
abbrev e0 : Mk := nX (n9 [])
abbrev m0 : Mk := sL 1 (sh (.fn 77 [.ptr]) (n5 (sI (sI (nX [])))))
abbrev mr : Mk := n4 (sI (nX (n4 [])))
abbrev ps : Mk := sL 1 (sh (.fn 77 [.ptr]) [])
abbrev rs : Mk := sI []
def C (k : Nat) : List (Ent PG R) := [steps_tangle_clashes_1.en k]
def b0 (k : Nat) (J0 : Kt R (U1)) (Jret : Kt R (Int × U1)) (rec : Kt R (LL × ((Nat × Nat) × U1) × Int × Int × U1)) (x : (LL × ((Nat × Nat) × U1) × Int × Int × U1)) (S : LL) : Option R :=
  ifB (decide (x.2.2.2.1 < x.2.2.1)) (idxL x.1 x.2.2.2.1 fun v1 => asStr (leaf v1 0) fun s2 => steps_tangle_clashes_1.fn k (s2, (x.2.1.1.1, x.2.1.1.2), ()) S fun r3 S => ifB r3.1 (Jret (x.2.2.2.1, ()) S) (rec (x.1, ((x.2.1.1.1, x.2.1.1.2), ()), x.2.2.1, (IntKind.wrap .i64 (x.2.2.2.1 + (1 : Int))), ()) S)) (J0 (()) S)
def L0 (k : Nat) : Pc PG R (.loop (sub (cd Tryz.f67) [tt,ff,tt,ff,ff])) := mkLoop T_ok (C k) _ m0 k (.seq .auto (.seq (.cond .auto (.mask e0 .auto)) (.seq (.block (.seq .auto (.seq .auto (.cond (.seq .auto (.mask mr .auto)) .auto)))) .auto))) ⟨tr, ⟨tr, tr⟩, ⟨tr, tr, ⟨tr, tr⟩, tr⟩, tr⟩ (fun K => b0 k (fun o S => K (.ext 0) (Qm e0 o S)) (fun o S => K .ret (Qm mr o S))) (fun K rec x S => by kernel_rfl)
def fn (k : Nat) (x : (LL × ((Nat × Nat) × U1) × U1)) (S : LL) (K : Kt R (Int × U1)) : Option R :=
  rounds (b0 k (fun o4 S => K ((-1 : Int), ()) S) (fun o5 S => K (o5.1, ()) S)) k (x.1, ((x.2.1.1.1, x.2.1.1.2), ()), (x.1.length : Int), (0 : Int), ()) S
def en (k : Nat) : Ent PG R := mkFn T_ok Tryz.func67 ps rs (C k) (.seq .auto (.seq (.seq .auto (.block (.piece (L0 k).h))) (.seq .auto (.mask mr .auto)))) ⟨tr, ⟨tr, (L0 k).ok⟩, tr, tr⟩ (fn k) (by kernel_rfl) (by kernel_rfl) (fun x S K => by kernel_rfl)
end G.slices_IndexFunc_s_string_string_at_steps_tangle_clashes_1
/-! ### 37: slices.ContainsFunc[[]string,string] -/
namespace G.slices_ContainsFunc_s_string_string_at_steps_tangle_clashes_1
abbrev mr : Mk := n4 (sB (n4 []))
abbrev ps : Mk := sL 1 (sh (.fn 77 [.ptr]) [])
abbrev rs : Mk := sB []
def C (k : Nat) : List (Ent PG R) := [slices_IndexFunc_s_string_string_at_steps_tangle_clashes_1.en k]
def fn (k : Nat) (x : (LL × ((Nat × Nat) × U1) × U1)) (S : LL) (K : Kt R (Bool × U1)) : Option R :=
  slices_IndexFunc_s_string_string_at_steps_tangle_clashes_1.fn k (x.1, ((x.2.1.1.1, x.2.1.1.2), ()), ()) S fun r1 S => K ((decide (r1.1 ≥ (0 : Int))), ()) S
def en (k : Nat) : Ent PG R := mkFn T_ok Tryz.func37 ps rs (C k) (.seq .auto (.seq .auto (.mask mr .auto))) ⟨tr, tr, tr⟩ (fn k) (by kernel_rfl) (by kernel_rfl) (fun x S K => by kernel_rfl)
end G.slices_ContainsFunc_s_string_string_at_steps_tangle_clashes_1
/-! ### 50: (smithyard/steps.tangle).clashes -/
namespace G.steps_tangle_clashes
abbrev mr : Mk := n4 (sB (nX []))
abbrev ps : Mk := sA [.map, .map, .map, .map] (sS [])
abbrev rs : Mk := sB []
def C (k : Nat) : List (Ent PG R) := [slices_ContainsFunc_s_string_string_at_steps_tangle_clashes_1.en k, steps_above.en k]
def fn (k : Nat) (x : ((Nat × Nat × Nat × Nat × U1) × BA × U1)) (S : LL) (K : Kt R (Bool × U1)) : Option R :=
  newObj S (.obj 92 [(.map x.1.1), (.map x.1.2.1), (.map x.1.2.2.1), (.map x.1.2.2.2.1)]) fun i1 S => objAt S i1 fun ty c2 => ldRaw c2 3 fun v3 => asMap v3 fun i4 => mpAt S i4 .str fun m5 => asBool ((mapGet m5 (.str x.2.1)).getD (.bool false)) fun b6 => ifB b6 (K (true, ()) S) (steps_above.fn k (x.2.1, ()) S fun r7 S => slices_ContainsFunc_s_string_string_at_steps_tangle_clashes_1.fn k (r7.1, ((i1, 0), ()), ()) S fun r8 S => K (r8.1, ()) S)
def en (k : Nat) : Ent PG R := mkFn T_ok Tryz.func50 ps rs (C k) (.seq (.own [(0, 1)]) (.seq (.own [(1, 3)]) (.mask mr .auto))) ⟨tr, tr, tr⟩ (fn k) (by kernel_rfl) (by kernel_rfl) (fun x S K => by kernel_rfl)
end G.steps_tangle_clashes
/-! ### 52: maps.Keys[map[int]bool,int,bool] -/
namespace G.maps_Keys_map_int_bool_int_bool
abbrev mr : Mk := n2 (sh (.fn 80 [.ptr]) (n1 []))
abbrev ps : Mk := sh (.lf (.map)) []
abbrev rs : Mk := sh (.fn 80 [.ptr]) []
def C (k : Nat) : List (Ent PG R) := []
def fn (k : Nat) (x : (Nat × U1)) (S : LL) (K : Kt R (((Nat × Nat) × U1) × U1)) : Option R :=
  newObj S (.obj 94 [(.map x.1)]) fun i1 S => K (((i1, 0), ()), ()) S
def en (k : Nat) : Ent PG R := mkFn T_ok Tryz.func52 ps rs (C k) (.seq (.own [(0, 1)]) (.seq .auto (.mask mr .auto))) ⟨tr, tr, tr⟩ (fn k) (by kernel_rfl) (by kernel_rfl) (fun x S K => by kernel_rfl)
end G.maps_Keys_map_int_bool_int_bool
/-! ### 36: (*smithyard/steps.plan).order -/
namespace G.steps_plan_order_nils
abbrev c0 : Mk := sP (sh (.lf (.nils)) (n4 (sh (.lf (.osl 1)) (sh (.lf (.osl 1)) (sI (sI (nX (nX (n3 (sL 1 (sI (sI (nX (n9 (sL 1 (sI (sI (nX (nX (nX (nX (nX (nX (nX (nX (n3 []))))))))))))))))))))))))))
abbrev c1 : Mk := sP (sh (.lf (.nils)) (n4 (sh (.lf (.osl 1)) (sh (.lf (.osl 1)) (sI (sI (sL 1 (nX (nX (n2 (sL 1 (sI (sI (nX (n1 (sB (nX (nX (nX (nX (nX (nX (nX (nX (nX (n3 []))))))))))))))))))))))))))
abbrev c2 : Mk := sP (sh (.lf (.nils)) (n4 (sh (.lf (.osl 1)) (sh (.lf (.osl 1)) (sI (sI (sL 1 (nX (nX (n2 (sL 1 (sI (sI (nX (nX (nX (nX (nX (nX (nX (nX (nX (nX (n5 []))))))))))))))))))))))))
abbrev c3 : Mk := sP (sh (.lf (.nils)) (n4 (sh (.lf (.osl 1)) (sh (.lf (.osl 1)) (sI (sI (sL 1 (nX (nX (n2 (sL 1 (sI (sI (nX (nX (nX (nX (nX (nX (nX (nX (nX (nX (n5 []))))))))))))))))))))))))
abbrev c4 : Mk := sP (sh (.lf (.nils)) (n4 (sh (.lf (.osl 1)) (sh (.lf (.osl 1)) (sI (sI (nX (nX (n3 (sL 1 (sI (sI (nX (n9 (sL 1 (sI (sI (sB (nX (nX (nX (nX (nX (nX (nX (nX (n2 [])))))))))))))))))))))))))))
abbrev c5 : Mk := sP (sh (.lf (.nils)) (n4 (sh (.lf (.osl 1)) (sh (.lf (.osl 1)) (sI (sI (nX (nX (n3 (sL 1 (sI (sI (nX (n9 (sL 1 (sI (sI (nX (nX (nX (nX (nX (nX (nX (nX (n3 []))))))))))))))))))))))))))
abbrev c6 : Mk := sP (sh (.lf (.nils)) (n4 (sh (.lf (.osl 1)) (sh (.lf (.osl 1)) (sI (sI (n2 (sI (nX (nX (sL 1 (sI (sI (nX (n9 (sL 1 (sI (sI (nX (nX (nX (nX (nX (nX (nX (nX (n3 [])))))))))))))))))))))))))))
abbrev c7 : Mk := n1 (sh (.lf (.nils)) (n4 (sh (.lf (.osl 1)) (sh (.lf (.osl 1)) (sI (n4 (sh (.lf (.osl 1)) (sO 3 1 (sI (nX (nX (nX (nX (nX (nX (nX (nX (nX (nX (nX (nX (n5 []))))))))))))))))))))))
abbrev z0 : Mk := sP (sh (.lf (.nils)) (n4 (sh (.lf (.osl 1)) (sh (.lf (.osl 1)) (sI (nX (nX (n4 (sL 1 (sI (sI (nX (nX (nX (nX (nX (nX (nX (nX (nX (nX (n5 []))))))))))))))))))))))
abbrev z1 : Mk := sP (sh (.lf (.nils)) (n4 (sh (.lf (.osl 1)) (sh (.lf (.osl 1)) (sI (nX (nX (n4 (sL 1 (sI (sI (nX (nX (nX (nX (nX (nX (nX (nX (nX (nX (n5 []))))))))))))))))))))))
abbrev z2 : Mk := sP (sh (.lf (.nils)) (n4 (sh (.lf (.osl 1)) (sh (.lf (.osl 1)) (sI (nX (nX (n4 (sL 1 (sI (sI (nX (nX (nX (nX (nX (nX (nX (nX (nX (nX (n5 []))))))))))))))))))))))
abbrev z3 : Mk := sP (sh (.lf (.nils)) (n4 (sh (.lf (.osl 1)) (sh (.lf (.osl 1)) (sI (nX (nX (n4 (sL 1 (sI (sI (nX (nX (nX (nX (nX (nX (nX (nX (nX (nX (n5 []))))))))))))))))))))))
abbrev z4 : Mk := sP (sh (.lf (.nils)) (n4 (sh (.lf (.osl 1)) (sh (.lf (.osl 1)) (sI (sI (nX (nX (n3 (sL 1 (sI (sI (nX (n9 (sL 1 (sI (sI (nX (nX (nX (nX (nX (nX (nX (nX (n3 []))))))))))))))))))))))))))
abbrev z5 : Mk := sP (sh (.lf (.nils)) (n4 (sh (.lf (.osl 1)) (sh (.lf (.osl 1)) (sI (sI (nX (nX (n3 (sL 1 (sI (sI (nX (n9 (sL 1 (sI (sI (nX (nX (nX (nX (nX (nX (nX (nX (n3 []))))))))))))))))))))))))))
abbrev z6 : Mk := sP (sh (.lf (.nils)) (n4 (sh (.lf (.osl 1)) (sh (.lf (.osl 1)) (sI (sI (nX (nX (n3 (sL 1 (sI (sI (nX (n9 (sL 1 (sI (sI (nX (nX (nX (nX (nX (nX (nX (nX (n3 []))))))))))))))))))))))))))
abbrev z7 : Mk := n1 (sh (.lf (.nils)) (n4 (sh (.lf (.osl 1)) (sh (.lf (.osl 1)) (sI (n4 (sh (.lf (.osl 1)) (sO 3 1 (sI (nX (nX (nX (nX (nX (nX (nX (nX (nX (nX (nX (nX (n5 []))))))))))))))))))))))
abbrev e0 : Mk := sP (sh (.lf (.nils)) (n4 (sh (.lf (.osl 1)) (sh (.lf (.osl 1)) (sI (nX (nX (nX (nX (nX (nX (nX (nX (nX (nX (nX (nX (nX (n2 [])))))))))))))))))))
abbrev e2 : Mk := sP (sh (.lf (.nils)) (n4 (sh (.lf (.osl 1)) (sh (.lf (.osl 1)) (sI (nX (nX (n4 (sL 1 (sI (sI (nX (nX (nX (nX (nX (nX (nX (nX (nX (nX (n5 []))))))))))))))))))))))
abbrev e4 : Mk := nX (n4 (sO 3 1 (nX (nX (nX (nX (nX (nX (nX (nX (nX (nX (nX (nX (n6 [])))))))))))))))
abbrev e6 : Mk := n1 (sh (.lf (.nils)) (n4 (sh (.lf (.osl 1)) (sh (.lf (.osl 1)) (sI (n4 (sh (.lf (.osl 1)) (sO 3 1 (sI (nX (nX (nX (nX (nX (nX (nX (nX (nX (nX (nX (nX (n5 []))))))))))))))))))))))
abbrev e8 : Mk := n1 (sh (.lf (.nils)) (n4 (sh (.lf (.osl 1)) (sh (.lf (.osl 1)) (sI (n4 (sh (.lf (.osl 1)) (sO 3 1 (nX (nX (nX (nX (nX (nX (nX (nX (nX (nX (nX (nX (n6 [])))))))))))))))))))))
abbrev m0 : Mk := sP (sh (.lf (.nils)) (n4 (sh (.lf (.osl 1)) (sh (.lf (.osl 1)) (sI (nX (nX (n4 (sL 1 (sI (sI (nX (nX (nX (nX (nX (nX (nX (nX (nX (nX (n5 []))))))))))))))))))))))
abbrev m1 : Mk := sP (sh (.lf (.nils)) (n4 (sh (.lf (.osl 1)) (sh (.lf (.osl 1)) (sI (sI (nX (nX (n3 (sL 1 (sI (sI (nX (n9 (sL 1 (sI (sI (nX (nX (nX (nX (nX (nX (nX (nX (n3 []))))))))))))))))))))))))))
abbrev m2 : Mk := n1 (sh (.lf (.nils)) (n4 (sh (.lf (.osl 1)) (sh (.lf (.osl 1)) (sI (n4 (sh (.lf (.osl 1)) (sO 3 1 (nX (nX (nX (nX (nX (nX (nX (nX (nX (nX (nX (nX (n6 [])))))))))))))))))))))
abbrev m3 : Mk := n1 (sh (.lf (.nils)) (n4 (sh (.lf (.osl 1)) (sh (.lf (.osl 1)) (sI (n4 (sh (.lf (.osl 1)) (sO 3 1 (sI (nX (nX (nX (nX (nX (nX (nX (nX (nX (nX (nX (nX (n5 []))))))))))))))))))))))
abbrev m4 : Mk := n1 (sh (.lf (.nils)) (n4 (sh (.lf (.osl 1)) (sh (.lf (.osl 1)) (sI (n4 (sh (.lf (.osl 1)) (sO 3 1 (nX (nX (nX (nX (nX (nX (nX (nX (nX (nX (nX (n2 (sL 1 (sI (sI (nX (n1 [])))))))))))))))))))))))))
abbrev mr : Mk := n4 (sO 3 1 (sB (nX (nX (nX (nX (nX (nX (nX (nX (nX (nX (nX (nX (nX (n5 []))))))))))))))))
abbrev ps : Mk := sP (sh (.lf (.nils)) [])
abbrev rs : Mk := sO 3 1 (sB [])
def C (k : Nat) : List (Ent PG R) := []
def q6 (k : Nat) (Jnrm : Kt R ((Nat × Nat) × U1 × (Nat × Nat × Nat) × (Nat × Nat × Nat) × Int × Int × LL × Int × Int × LL × Int × Int × U1))  (x : ((Nat × Nat) × U1 × (Nat × Nat × Nat) × (Nat × Nat × Nat) × Int × Int × Int × LL × Int × Int × LL × Int × Int × U1)) (S : LL) : Option R :=
  idxN x.2.2.2.1.2.2 x.2.2.2.2.2.2.1 fun v18 => objAt S x.2.2.2.1.1 fun ty c19 => asOwn 3 1 (c19.getD (x.2.2.2.1.2.1 + v18 * 1) .any) fun l20 => setS (S.set x.2.2.2.1.1 (ty (c19.set (x.2.2.2.1.2.1 + v18 * 1) (.sl 1 l20)))) fun S => app 8 l20 [(.int .i64 x.2.2.2.2.2.1)] fun l21 => idxN x.2.2.2.1.2.2 x.2.2.2.2.2.2.1 fun v22 => objAt S x.2.2.2.1.1 fun ty c23 => stO c23 (x.2.2.2.1.2.1 + v22 * 1) [(.own 3 1 l21)] fun c24 => setS (S.set x.2.2.2.1.1 (ty c24)) fun S => Jnrm ((x.1.1, x.1.2), (), (x.2.2.1.1, x.2.2.1.2.1, x.2.2.1.2.2), (x.2.2.2.1.1, x.2.2.2.1.2.1, x.2.2.2.1.2.2), x.2.2.2.2.1, x.2.2.2.2.2.1, x.2.2.2.2.2.2.2.1, x.2.2.2.2.2.2.2.2.1, x.2.2.2.2.2.2.2.2.2.1, x.2.2.2.2.2.2.2.2.2.2.1, x.2.2.2.2.2.2.2.2.2.2.2.1, x.2.2.2.2.2.2.2.2.2.2.2.2.1, ()) S
def Q6 (k : Nat) : Pc PG R (sub (cd Tryz.f36) [tt,tt,tt,tt,ff,tt,ff,ff,tt,tt,ff,ff,tt,tt,ff,tt,tt,tt,ff,ff,tt,tt,ff,ff,tt]) := mkEnd T_ok (C k) _ c6 z6 (.own [(5, 2), (10, 2)]) tr (fun x S K => q6 k (fun o S => K .nrm (Qm z6 o S))  x S) (fun x S K => by kernel_rfl)
def q5 (k : Nat) (Jnrm : Kt R ((Nat × Nat) × U1 × (Nat × Nat × Nat) × (Nat × Nat × Nat) × Int × Int × LL × Int × Int × LL × Int × Int × U1))  (x : ((Nat × Nat) × U1 × (Nat × Nat × Nat) × (Nat × Nat × Nat) × Int × Int × LL × Int × Int × LL × Int × Int × U1)) (S : LL) : Option R :=
  idxL x.2.2.2.2.2.2.2.2.2.1 x.2.2.2.2.2.2.2.2.2.2.2.1 fun v16 => asInt .i64 (leaf v16 0) fun n17 => q6 k (fun o25 S => Jnrm ((o25.1.1, o25.1.2), (), (o25.2.2.1.1, o25.2.2.1.2.1, o25.2.2.1.2.2), (o25.2.2.2.1.1, o25.2.2.2.1.2.1, o25.2.2.2.1.2.2), o25.2.2.2.2.1, o25.2.2.2.2.2.1, o25.2.2.2.2.2.2.1, o25.2.2.2.2.2.2.2.1, o25.2.2.2.2.2.2.2.2.1, o25.2.2.2.2.2.2.2.2.2.1, o25.2.2.2.2.2.2.2.2.2.2.1, (IntKind.wrap .i64 (o25.2.2.2.2.2.2.2.2.2.2.2.1 + (1 : Int))), ()) S) ((x.1.1, x.1.2), (), (x.2.2.1.1, x.2.2.1.2.1, x.2.2.1.2.2), (x.2.2.2.1.1, x.2.2.2.1.2.1, x.2.2.2.1.2.2), x.2.2.2.2.1, x.2.2.2.2.2.1, n17, x.2.2.2.2.2.2.1, x.2.2.2.2.2.2.2.1, x.2.2.2.2.2.2.2.2.1, x.2.2.2.2.2.2.2.2.2.1, x.2.2.2.2.2.2.2.2.2.2.1, x.2.2.2.2.2.2.2.2.2.2.2.1, ()) S
def Q5 (k : Nat) : Pc PG R (sub (cd Tryz.f36) [tt,tt,tt,tt,ff,tt,ff,ff,tt,tt,ff,ff,tt,tt,ff,tt,tt,tt,ff,ff,tt,tt]) := mkEnd T_ok (C k) _ c5 z5 (.seq (.block (.seq .auto (.piece (Q6 k).h))) .auto) ⟨⟨tr, (Q6 k).ok⟩, tr⟩ (fun x S K => q5 k (fun o S => K .nrm (Qm z5 o S))  x S) (fun x S K => by kernel_rfl)
def q4 (k : Nat) (Jnrm : Kt R ((Nat × Nat) × U1 × (Nat × Nat × Nat) × (Nat × Nat × Nat) × Int × Int × LL × Int × Int × LL × Int × Int × U1)) (J2 : Kt R ((Nat × Nat) × U1 × (Nat × Nat × Nat) × (Nat × Nat × Nat) × Int × LL × Int × Int × U1)) (x : ((Nat × Nat) × U1 × (Nat × Nat × Nat) × (Nat × Nat × Nat) × Int × Int × LL × Int × Int × LL × Int × Int × Bool × U1)) (S : LL) : Option R :=
  ifB x.2.2.2.2.2.2.2.2.2.2.2.2.1 (q5 k (fun o26 S => Jnrm ((o26.1.1, o26.1.2), (), (o26.2.2.1.1, o26.2.2.1.2.1, o26.2.2.1.2.2), (o26.2.2.2.1.1, o26.2.2.2.1.2.1, o26.2.2.2.1.2.2), o26.2.2.2.2.1, o26.2.2.2.2.2.1, o26.2.2.2.2.2.2.1, o26.2.2.2.2.2.2.2.1, o26.2.2.2.2.2.2.2.2.1, o26.2.2.2.2.2.2.2.2.2.1, o26.2.2.2.2.2.2.2.2.2.2.1, o26.2.2.2.2.2.2.2.2.2.2.2.1, ()) S) ((x.1.1, x.1.2), (), (x.2.2.1.1, x.2.2.1.2.1, x.2.2.1.2.2), (x.2.2.2.1.1, x.2.2.2.1.2.1, x.2.2.2.1.2.2), x.2.2.2.2.1, x.2.2.2.2.2.1, x.2.2.2.2.2.2.1, x.2.2.2.2.2.2.2.1, x.2.2.2.2.2.2.2.2.1, x.2.2.2.2.2.2.2.2.2.1, x.2.2.2.2.2.2.2.2.2.2.1, x.2.2.2.2.2.2.2.2.2.2.2.1, ()) S) (J2 ((x.1.1, x.1.2), (), (x.2.2.1.1, x.2.2.1.2.1, x.2.2.1.2.2), (x.2.2.2.1.1, x.2.2.2.1.2.1, x.2.2.2.1.2.2), x.2.2.2.2.1, x.2.2.2.2.2.2.1, x.2.2.2.2.2.2.2.1, x.2.2.2.2.2.2.2.2.1, ()) S)
def Q4 (k : Nat) : Pc PG R (sub (cd Tryz.f36) [tt,tt,tt,tt,ff,tt,ff,ff,tt,tt,ff,ff,tt,tt,ff,tt,tt,tt,ff,ff,tt]) := mkEnd T_ok (C k) _ c4 z4 (.seq (.cond .auto (.mask e2 .auto)) (.piece (Q5 k).h)) ⟨⟨tr, tr⟩, (Q5 k).ok⟩ (fun x S K => q4 k (fun o S => K .nrm (Qm z4 o S)) (fun o S => K (.ext 2) (Qm e2 o S)) x S) (fun x S K => by kernel_rfl)
def b1 (k : Nat) (J2 : Kt R ((Nat × Nat) × U1 × (Nat × Nat × Nat) × (Nat × Nat × Nat) × Int × LL × Int × Int × U1)) (rec : Kt R ((Nat × Nat) × U1 × (Nat × Nat × Nat) × (Nat × Nat × Nat) × Int × Int × LL × Int × Int × LL × Int × Int × U1)) (x : ((Nat × Nat) × U1 × (Nat × Nat × Nat) × (Nat × Nat × Nat) × Int × Int × LL × Int × Int × LL × Int × Int × U1)) (S : LL) : Option R :=
  q4 k (fun o27 S => rec ((o27.1.1, o27.1.2), (), (o27.2.2.1.1, o27.2.2.1.2.1, o27.2.2.1.2.2), (o27.2.2.2.1.1, o27.2.2.2.1.2.1, o27.2.2.2.1.2.2), o27.2.2.2.2.1, o27.2.2.2.2.2.1, o27.2.2.2.2.2.2.1, o27.2.2.2.2.2.2.2.1, o27.2.2.2.2.2.2.2.2.1, o27.2.2.2.2.2.2.2.2.2.1, o27.2.2.2.2.2.2.2.2.2.2.1, o27.2.2.2.2.2.2.2.2.2.2.2.1, ()) S) (fun o28 S => J2 ((o28.1.1, o28.1.2), (), (o28.2.2.1.1, o28.2.2.1.2.1, o28.2.2.1.2.2), (o28.2.2.2.1.1, o28.2.2.2.1.2.1, o28.2.2.2.1.2.2), o28.2.2.2.2.1, o28.2.2.2.2.2.1, o28.2.2.2.2.2.2.1, o28.2.2.2.2.2.2.2.1, ()) S) ((x.1.1, x.1.2), (), (x.2.2.1.1, x.2.2.1.2.1, x.2.2.1.2.2), (x.2.2.2.1.1, x.2.2.2.1.2.1, x.2.2.2.1.2.2), x.2.2.2.2.1, x.2.2.2.2.2.1, x.2.2.2.2.2.2.1, x.2.2.2.2.2.2.2.1, x.2.2.2.2.2.2.2.2.1, x.2.2.2.2.2.2.2.2.2.1, x.2.2.2.2.2.2.2.2.2.2.1, x.2.2.2.2.2.2.2.2.2.2.2.1, (decide (x.2.2.2.2.2.2.2.2.2.2.2.1 < x.2.2.2.2.2.2.2.2.2.2.1)), ()) S
def L1 (k : Nat) : Pc PG R (.loop (sub (cd Tryz.f36) [tt,tt,tt,tt,ff,tt,ff,ff,tt,tt,ff,ff,tt,tt,ff,tt,tt,tt,ff,ff])) := mkLoop T_ok (C k) _ m1 k (.seq .auto (.piece (Q4 k).h)) ⟨tr, (Q4 k).ok⟩ (fun K => b1 k (fun o S => K (.ext 2) (Qm e2 o S))) (fun K rec x S => by kernel_rfl)
def b4 (k : Nat) (J8 : Kt R (U1 × (Nat × Nat × Nat) × (Nat × Nat × Nat) × Int × (Nat × Nat × Nat) × LL × U1)) (rec : Kt R (U1 × (Nat × Nat × Nat) × (Nat × Nat × Nat) × Int × (Nat × Nat × Nat) × LL × LL × Int × Int × U1)) (x : (U1 × (Nat × Nat × Nat) × (Nat × Nat × Nat) × Int × (Nat × Nat × Nat) × LL × LL × Int × Int × U1)) (S : LL) : Option R :=
  ifB (decide (x.2.2.2.2.2.2.2.2.1 < x.2.2.2.2.2.2.2.1)) (idxL x.2.2.2.2.2.2.1 x.2.2.2.2.2.2.2.2.1 fun v61 => asInt .i64 (leaf v61 0) fun n62 => idxN x.2.1.2.2 n62 fun v63 => objAt S x.2.1.1 fun ty c64 => ldInt .i64 c64 (x.2.1.2.1 + v63 * 1) fun n65 => idxN x.2.1.2.2 n62 fun v66 => objAt S x.2.1.1 fun ty c67 => stO c67 (x.2.1.2.1 + v66 * 1) [(.int .i64 (IntKind.wrap .i64 (n65 - (1 : Int))))] fun c68 => setS (S.set x.2.1.1 (ty c68)) fun S => rec ((), (x.2.1.1, x.2.1.2.1, x.2.1.2.2), (x.2.2.1.1, x.2.2.1.2.1, x.2.2.1.2.2), x.2.2.2.1, (x.2.2.2.2.1.1, x.2.2.2.2.1.2.1, x.2.2.2.2.1.2.2), x.2.2.2.2.2.1, x.2.2.2.2.2.2.1, x.2.2.2.2.2.2.2.1, (IntKind.wrap .i64 (x.2.2.2.2.2.2.2.2.1 + (1 : Int))), ()) S) (J8 ((), (x.2.1.1, x.2.1.2.1, x.2.1.2.2), (x.2.2.1.1, x.2.2.1.2.1, x.2.2.1.2.2), x.2.2.2.1, (x.2.2.2.2.1.1, x.2.2.2.2.1.2.1, x.2.2.2.2.1.2.2), x.2.2.2.2.2.1, ()) S)
def L4 (k : Nat) : Pc PG R (.loop (sub (cd Tryz.f36) [tt,tt,tt,tt,tt,tt,tt,ff,ff,ff,tt,ff,tt,tt,tt,tt,tt,tt,ff,ff])) := mkLoop T_ok (C k) _ m4 k (.seq .auto (.seq (.cond .auto (.mask e8 .auto)) (.seq (.block (.seq .auto (.own [(3, 1), (6, 1)]))) .auto))) ⟨tr, ⟨tr, tr⟩, ⟨tr, tr⟩, tr⟩ (fun K => b4 k (fun o S => K (.ext 8) (Qm e8 o S))) (fun K rec x S => by kernel_rfl)
def q0 (k : Nat) (Jnrm : Kt R ((Nat × Nat) × U1 × (Nat × Nat × Nat) × (Nat × Nat × Nat) × Int × LL × Int × Int × U1))  (x : ((Nat × Nat) × U1 × (Nat × Nat × Nat) × (Nat × Nat × Nat) × Int × Int × LL × Int × Int × LL × Int × Int × U1)) (S : LL) : Option R :=
  rounds (b1 k (fun o29 S => Jnrm ((o29.1.1, o29.1.2), (), (o29.2.2.1.1, o29.2.2.1.2.1, o29.2.2.1.2.2), (o29.2.2.2.1.1, o29.2.2.2.1.2.1, o29.2.2.2.1.2.2), o29.2.2.2.2.1, o29.2.2.2.2.2.1, o29.2.2.2.2.2.2.1, o29.2.2.2.2.2.2.2.1, ()) S)) k ((x.1.1, x.1.2), (), (x.2.2.1.1, x.2.2.1.2.1, x.2.2.1.2.2), (x.2.2.2.1.1, x.2.2.2.1.2.1, x.2.2.2.1.2.2), x.2.2.2.2.1, x.2.2.2.2.2.1, x.2.2.2.2.2.2.1, x.2.2.2.2.2.2.2.1, x.2.2.2.2.2.2.2.2.1, x.2.2.2.2.2.2.2.2.2.1, x.2.2.2.2.2.2.2.2.2.2.1, x.2.2.2.2.2.2.2.2.2.2.2.1, ()) S
def Q0 (k : Nat) : Pc PG R (sub (cd Tryz.f36) [tt,tt,tt,tt,ff,tt,ff,ff,tt,tt,ff,ff,tt,tt,ff,tt,tt,tt]) := mkEnd T_ok (C k) _ c0 z0 (.block (.piece (L1 k).h)) (L1 k).ok (fun x S K => q0 k (fun o S => K .nrm (Qm z0 o S))  x S) (fun x S K => by kernel_rfl)
def q3 (k : Nat) (Jnrm : Kt R ((Nat × Nat) × U1 × (Nat × Nat × Nat) × (Nat × Nat × Nat) × Int × LL × Int × Int × U1))  (x : ((Nat × Nat) × U1 × (Nat × Nat × Nat) × (Nat × Nat × Nat) × Int × Int × LL × LL × Int × Int × U1)) (S : LL) : Option R :=
  q0 k (fun o30 S => Jnrm ((o30.1.1, o30.1.2), (), (o30.2.2.1.1, o30.2.2.1.2.1, o30.2.2.1.2.2), (o30.2.2.2.1.1, o30.2.2.2.1.2.1, o30.2.2.2.1.2.2), o30.2.2.2.2.1, o30.2.2.2.2.2.1, o30.2.2.2.2.2.2.1, o30.2.2.2.2.2.2.2.1, ()) S) ((x.1.1, x.1.2), (), (x.2.2.1.1, x.2.2.1.2.1, x.2.2.1.2.2), (x.2.2.2.1.1, x.2.2.2.1.2.1, x.2.2.2.1.2.2), x.2.2.2.2.1, x.2.2.2.2.2.1, x.2.2.2.2.2.2.2.1, x.2.2.2.2.2.2.2.2.1, x.2.2.2.2.2.2.2.2.2.1, x.2.2.2.2.2.2.1, (x.2.2.2.2.2.2.1.length : Int), (0 : Int), ()) S
def Q3 (k : Nat) : Pc PG R (sub (cd Tryz.f36) [tt,tt,tt,tt,ff,tt,ff,ff,tt,tt,ff,ff,tt,tt,ff,tt,tt]) := mkEnd T_ok (C k) _ c3 z3 (.seq .auto (.piece (Q0 k).h)) ⟨tr, (Q0 k).ok⟩ (fun x S K => q3 k (fun o S => K .nrm (Qm z3 o S))  x S) (fun x S K => by kernel_rfl)
def q7 (k : Nat) (Jnrm : Kt R (U1 × (Nat × Nat × Nat) × (Nat × Nat × Nat) × Int × (Nat × Nat × Nat) × LL × Int × U1))  (x : (U1 × (Nat × Nat × Nat) × (Nat × Nat × Nat) × Int × (Nat × Nat × Nat) × LL × Int × U1)) (S : LL) : Option R :=
  Jnrm ((), (x.2.1.1, x.2.1.2.1, x.2.1.2.2), (x.2.2.1.1, x.2.2.1.2.1, x.2.2.1.2.2), x.2.2.2.1, (x.2.2.2.2.1.1, x.2.2.2.2.1.2.1, x.2.2.2.2.1.2.2), x.2.2.2.2.2.1, (IntKind.wrap .i64 (x.2.2.2.2.2.2.1 + (1 : Int))), ()) S
def Q7 (k : Nat) : Pc PG R (sub (cd Tryz.f36) [tt,tt,tt,tt,tt,tt,tt,ff,ff,ff,tt,ff,tt,ff,ff,ff,tt]) := mkEnd T_ok (C k) _ c7 z7 (.block .auto) tr (fun x S K => q7 k (fun o S => K .nrm (Qm z7 o S))  x S) (fun x S K => by kernel_rfl)
def q2 (k : Nat) (Jnrm : Kt R ((Nat × Nat) × U1 × (Nat × Nat × Nat) × (Nat × Nat × Nat) × Int × LL × Int × Int × U1))  (x : ((Nat × Nat) × U1 × (Nat × Nat × Nat) × (Nat × Nat × Nat) × Int × Int × LL × LL × Int × Int × U1)) (S : LL) : Option R :=
  idxN x.2.2.1.2.2 x.2.2.2.2.2.1 fun v13 => objAt S x.2.2.1.1 fun ty c14 => stO c14 (x.2.2.1.2.1 + v13 * 1) [(.int .i64 (x.2.2.2.2.2.2.1.length : Int))] fun c15 => setS (S.set x.2.2.1.1 (ty c15)) fun S => q3 k (fun o31 S => Jnrm ((o31.1.1, o31.1.2), (), (o31.2.2.1.1, o31.2.2.1.2.1, o31.2.2.1.2.2), (o31.2.2.2.1.1, o31.2.2.2.1.2.1, o31.2.2.2.1.2.2), o31.2.2.2.2.1, o31.2.2.2.2.2.1, o31.2.2.2.2.2.2.1, o31.2.2.2.2.2.2.2.1, ()) S) ((x.1.1, x.1.2), (), (x.2.2.1.1, x.2.2.1.2.1, x.2.2.1.2.2), (x.2.2.2.1.1, x.2.2.2.1.2.1, x.2.2.2.1.2.2), x.2.2.2.2.1, x.2.2.2.2.2.1, x.2.2.2.2.2.2.1, x.2.2.2.2.2.2.2.1, x.2.2.2.2.2.2.2.2.1, x.2.2.2.2.2.2.2.2.2.1, ()) S
def Q2 (k : Nat) : Pc PG R (sub (cd Tryz.f36) [tt,tt,tt,tt,ff,tt,ff,ff,tt,tt,ff,ff,tt,tt,ff,tt]) := mkEnd T_ok (C k) _ c2 z2 (.seq (.own [(5, 1)]) (.piece (Q3 k).h)) ⟨tr, (Q3 k).ok⟩ (fun x S K => q2 k (fun o S => K .nrm (Qm z2 o S))  x S) (fun x S K => by kernel_rfl)
def b3 (k : Nat) (J6 : Kt R (U1 × (Nat × Nat × Nat) × (Nat × Nat × Nat) × Int × (Nat × Nat × Nat) × LL × Int × U1)) (rec : Kt R (U1 × (Nat × Nat × Nat) × (Nat × Nat × Nat) × Int × (Nat × Nat × Nat) × LL × Int × U1)) (x : (U1 × (Nat × Nat × Nat) × (Nat × Nat × Nat) × Int × (Nat × Nat × Nat) × LL × Int × U1)) (S : LL) : Option R :=
  ifB (decide (x.2.2.2.2.2.2.1 < (x.2.1.2.2 : Int))) (idxN x.2.2.2.2.1.2.2 x.2.2.2.2.2.2.1 fun v42 => objAt S x.2.2.2.2.1.1 fun ty c43 => ldBool c43 (x.2.2.2.2.1.2.1 + v42 * 1) fun b44 => ifB b44 (q7 k (fun o45 S => rec ((), (o45.2.1.1, o45.2.1.2.1, o45.2.1.2.2), (o45.2.2.1.1, o45.2.2.1.2.1, o45.2.2.1.2.2), o45.2.2.2.1, (o45.2.2.2.2.1.1, o45.2.2.2.2.1.2.1, o45.2.2.2.2.1.2.2), o45.2.2.2.2.2.1, o45.2.2.2.2.2.2.1, ()) S) ((), (x.2.1.1, x.2.1.2.1, x.2.1.2.2), (x.2.2.1.1, x.2.2.1.2.1, x.2.2.1.2.2), x.2.2.2.1, (x.2.2.2.2.1.1, x.2.2.2.2.1.2.1, x.2.2.2.2.1.2.2), x.2.2.2.2.2.1, x.2.2.2.2.2.2.1, ()) S) (idxN x.2.1.2.2 x.2.2.2.2.2.2.1 fun v46 => objAt S x.2.1.1 fun ty c47 => ldInt .i64 c47 (x.2.1.2.1 + v46 * 1) fun n48 => ifB (decide (n48 > (0 : Int))) (q7 k (fun o49 S => rec ((), (o49.2.1.1, o49.2.1.2.1, o49.2.1.2.2), (o49.2.2.1.1, o49.2.2.1.2.1, o49.2.2.1.2.2), o49.2.2.2.1, (o49.2.2.2.2.1.1, o49.2.2.2.2.1.2.1, o49.2.2.2.2.1.2.2), o49.2.2.2.2.2.1, o49.2.2.2.2.2.2.1, ()) S) ((), (x.2.1.1, x.2.1.2.1, x.2.1.2.2), (x.2.2.1.1, x.2.2.1.2.1, x.2.2.1.2.2), x.2.2.2.1, (x.2.2.2.2.1.1, x.2.2.2.2.1.2.1, x.2.2.2.2.1.2.2), x.2.2.2.2.2.1, x.2.2.2.2.2.2.1, ()) S) (ifB (!(true == true)) (idxL [] x.2.2.2.2.2.2.1 fun v50 => asBool (leaf v50 0) fun b51 => ifB (!b51) (q7 k (fun o52 S => rec ((), (o52.2.1.1, o52.2.1.2.1, o52.2.1.2.2), (o52.2.2.1.1, o52.2.2.1.2.1, o52.2.2.1.2.2), o52.2.2.2.1, (o52.2.2.2.2.1.1, o52.2.2.2.2.1.2.1, o52.2.2.2.2.1.2.2), o52.2.2.2.2.2.1, o52.2.2.2.2.2.2.1, ()) S) ((), (x.2.1.1, x.2.1.2.1, x.2.1.2.2), (x.2.2.1.1, x.2.2.1.2.1, x.2.2.1.2.2), x.2.2.2.1, (x.2.2.2.2.1.1, x.2.2.2.2.1.2.1, x.2.2.2.2.1.2.2), x.2.2.2.2.2.1, x.2.2.2.2.2.2.1, ()) S) (J6 ((), (x.2.1.1, x.2.1.2.1, x.2.1.2.2), (x.2.2.1.1, x.2.2.1.2.1, x.2.2.1.2.2), x.2.2.2.1, (x.2.2.2.2.1.1, x.2.2.2.2.1.2.1, x.2.2.2.2.1.2.2), x.2.2.2.2.2.1, x.2.2.2.2.2.2.1, ()) S)) (J6 ((), (x.2.1.1, x.2.1.2.1, x.2.1.2.2), (x.2.2.1.1, x.2.2.1.2.1, x.2.2.1.2.2), x.2.2.2.1, (x.2.2.2.2.1.1, x.2.2.2.2.1.2.1, x.2.2.2.2.1.2.2), x.2.2.2.2.2.1, x.2.2.2.2.2.2.1, ()) S)))) (J6 ((), (x.2.1.1, x.2.1.2.1, x.2.1.2.2), (x.2.2.1.1, x.2.2.1.2.1, x.2.2.1.2.2), x.2.2.2.1, (x.2.2.2.2.1.1, x.2.2.2.2.1.2.1, x.2.2.2.2.1.2.2), x.2.2.2.2.2.1, x.2.2.2.2.2.2.1, ()) S)
def L3 (k : Nat) : Pc PG R (.loop (sub (cd Tryz.f36) [tt,tt,tt,tt,tt,tt,tt,ff,ff,ff,tt,ff,tt,ff,ff,ff])) := mkLoop T_ok (C k) _ m3 k (.seq (.seq (.own [(8, 1), (13, 1)]) (.cond .auto (.mask e6 .auto))) (.piece (Q7 k).h)) ⟨⟨tr, tr, tr⟩, (Q7 k).ok⟩ (fun K => b3 k (fun o S => K (.ext 6) (Qm e6 o S))) (fun K rec x S => by kernel_rfl)
def q1 (k : Nat) (Jnrm : Kt R ((Nat × Nat) × U1 × (Nat × Nat × Nat) × (Nat × Nat × Nat) × Int × LL × Int × Int × U1))  (x : ((Nat × Nat) × U1 × (Nat × Nat × Nat) × (Nat × Nat × Nat) × Int × Int × LL × LL × Int × Int × Bool × U1)) (S : LL) : Option R :=
  ifB x.2.2.2.2.2.2.2.2.2.2.1 (q2 k (fun o32 S => Jnrm ((o32.1.1, o32.1.2), (), (o32.2.2.1.1, o32.2.2.1.2.1, o32.2.2.1.2.2), (o32.2.2.2.1.1, o32.2.2.2.1.2.1, o32.2.2.2.1.2.2), o32.2.2.2.2.1, o32.2.2.2.2.2.1, o32.2.2.2.2.2.2.1, o32.2.2.2.2.2.2.2.1, ()) S) ((x.1.1, x.1.2), (), (x.2.2.1.1, x.2.2.1.2.1, x.2.2.1.2.2), (x.2.2.2.1.1, x.2.2.2.1.2.1, x.2.2.2.1.2.2), (IntKind.wrap .i64 (x.2.2.2.2.1 + (1 : Int))), x.2.2.2.2.2.1, x.2.2.2.2.2.2.1, x.2.2.2.2.2.2.2.1, x.2.2.2.2.2.2.2.2.1, x.2.2.2.2.2.2.2.2.2.1, ()) S) (Jnrm ((x.1.1, x.1.2), (), (x.2.2.1.1, x.2.2.1.2.1, x.2.2.1.2.2), (x.2.2.2.1.1, x.2.2.2.1.2.1, x.2.2.2.1.2.2), x.2.2.2.2.1, x.2.2.2.2.2.2.2.1, x.2.2.2.2.2.2.2.2.1, x.2.2.2.2.2.2.2.2.2.1, ()) S)
def Q1 (k : Nat) : Pc PG R (sub (cd Tryz.f36) [tt,tt,tt,tt,ff,tt,ff,ff,tt,tt,ff,ff,tt,tt]) := mkEnd T_ok (C k) _ c1 z1 (.cond (.seq .auto (.piece (Q2 k).h)) .auto) ⟨⟨tr, (Q2 k).ok⟩, tr⟩ (fun x S K => q1 k (fun o S => K .nrm (Qm z1 o S))  x S) (fun x S K => by kernel_rfl)
def b2 (k : Nat) (J4 : Kt R (LL × U1)) (Jret : Kt R (LL × Bool × U1)) (rec : Kt R (U1 × (Nat × Nat × Nat) × (Nat × Nat × Nat) × Int × (Nat × Nat × Nat) × LL × U1)) (x : (U1 × (Nat × Nat × Nat) × (Nat × Nat × Nat) × Int × (Nat × Nat × Nat) × LL × U1)) (S : LL) : Option R :=
  ifB (decide ((x.2.2.2.2.2.1.length : Int) < x.2.2.2.1)) (rounds (b3 k (fun o53 S => ifB (o53.2.2.2.2.2.2.1 == (o53.2.1.2.2 : Int)) (Jret ([], false, ()) S) (idxN o53.2.2.2.2.1.2.2 o53.2.2.2.2.2.2.1 fun v54 => objAt S o53.2.2.2.2.1.1 fun ty c55 => stO c55 (o53.2.2.2.2.1.2.1 + v54 * 1) [(.bool true)] fun c56 => setS (S.set o53.2.2.2.2.1.1 (ty c56)) fun S => app 8 o53.2.2.2.2.2.1 [(.int .i64 o53.2.2.2.2.2.2.1)] fun l57 => idxN o53.2.2.1.2.2 o53.2.2.2.2.2.2.1 fun v58 => objAt S o53.2.2.1.1 fun ty c59 => ldSl 1 c59 (o53.2.2.1.2.1 + v58 * 1) fun l60 => rounds (b4 k (fun o69 S => rec ((), (o69.2.1.1, o69.2.1.2.1, o69.2.1.2.2), (o69.2.2.1.1, o69.2.2.1.2.1, o69.2.2.1.2.2), o69.2.2.2.1, (o69.2.2.2.2.1.1, o69.2.2.2.2.1.2.1, o69.2.2.2.2.1.2.2), o69.2.2.2.2.2.1, ()) S)) k ((), (o53.2.1.1, o53.2.1.2.1, o53.2.1.2.2), (o53.2.2.1.1, o53.2.2.1.2.1, o53.2.2.1.2.2), o53.2.2.2.1, (o53.2.2.2.2.1.1, o53.2.2.2.2.1.2.1, o53.2.2.2.2.1.2.2), l57, l60, (l60.length : Int), (0 : Int), ()) S))) k ((), (x.2.1.1, x.2.1.2.1, x.2.1.2.2), (x.2.2.1.1, x.2.2.1.2.1, x.2.2.1.2.2), x.2.2.2.1, (x.2.2.2.2.1.1, x.2.2.2.2.1.2.1, x.2.2.2.2.1.2.2), x.2.2.2.2.2.1, (0 : Int), ()) S) (J4 (x.2.2.2.2.2.1, ()) S)
def L2 (k : Nat) : Pc PG R (.loop (sub (cd Tryz.f36) [tt,tt,tt,tt,tt,tt,tt,ff,ff,ff])) := mkLoop T_ok (C k) _ m2 k (.seq (.seq .auto (.cond .auto (.mask e4 .auto))) (.block (.seq .auto (.seq (.block (.piece (L3 k).h)) (.seq (.seq .auto (.cond (.seq .auto (.mask mr .auto)) .auto)) (.seq (.own [(3, 1)]) (.seq (.own [(0, 1)]) (.seq (.own [(3, 1)]) (.block (.piece (L4 k).h)))))))))) ⟨⟨tr, tr, tr⟩, tr, (L3 k).ok, ⟨tr, ⟨tr, tr⟩, tr⟩, tr, tr, tr, (L4 k).ok⟩ (fun K => b2 k (fun o S => K (.ext 4) (Qm e4 o S)) (fun o S => K .ret (Qm mr o S))) (fun K rec x S => by kernel_rfl)
def b0 (k : Nat) (J0 : Kt R ((Nat × Nat) × U1 × (Nat × Nat × Nat) × (Nat × Nat × Nat) × Int × U1)) (rec : Kt R ((Nat × Nat) × U1 × (Nat × Nat × Nat) × (Nat × Nat × Nat) × Int × LL × Int × Int × U1)) (x : ((Nat × Nat) × U1 × (Nat × Nat × Nat) × (Nat × Nat × Nat) × Int × LL × Int × Int × U1)) (S : LL) : Option R :=
  ifB (decide (x.2.2.2.2.2.2.2.1 < x.2.2.2.2.2.2.1)) (idxL x.2.2.2.2.2.1 x.2.2.2.2.2.2.2.1 fun v11 => asSl 1 (leaf v11 0) fun l12 => ifB (true == true) (q1 k (fun o33 S => rec ((o33.1.1, o33.1.2), (), (o33.2.2.1.1, o33.2.2.1.2.1, o33.2.2.1.2.2), (o33.2.2.2.1.1, o33.2.2.2.1.2.1, o33.2.2.2.1.2.2), o33.2.2.2.2.1, o33.2.2.2.2.2.1, o33.2.2.2.2.2.2.1, (IntKind.wrap .i64 (o33.2.2.2.2.2.2.2.1 + (1 : Int))), ()) S) ((x.1.1, x.1.2), (), (x.2.2.1.1, x.2.2.1.2.1, x.2.2.1.2.2), (x.2.2.2.1.1, x.2.2.2.1.2.1, x.2.2.2.1.2.2), x.2.2.2.2.1, x.2.2.2.2.2.2.2.1, l12, x.2.2.2.2.2.1, x.2.2.2.2.2.2.1, x.2.2.2.2.2.2.2.1, true, ()) S) (idxL [] x.2.2.2.2.2.2.2.1 fun v34 => asBool (leaf v34 0) fun b35 => q1 k (fun o36 S => rec ((o36.1.1, o36.1.2), (), (o36.2.2.1.1, o36.2.2.1.2.1, o36.2.2.1.2.2), (o36.2.2.2.1.1, o36.2.2.2.1.2.1, o36.2.2.2.1.2.2), o36.2.2.2.2.1, o36.2.2.2.2.2.1, o36.2.2.2.2.2.2.1, (IntKind.wrap .i64 (o36.2.2.2.2.2.2.2.1 + (1 : Int))), ()) S) ((x.1.1, x.1.2), (), (x.2.2.1.1, x.2.2.1.2.1, x.2.2.1.2.2), (x.2.2.2.1.1, x.2.2.2.1.2.1, x.2.2.2.1.2.2), x.2.2.2.2.1, x.2.2.2.2.2.2.2.1, l12, x.2.2.2.2.2.1, x.2.2.2.2.2.2.1, x.2.2.2.2.2.2.2.1, b35, ()) S)) (J0 ((x.1.1, x.1.2), (), (x.2.2.1.1, x.2.2.1.2.1, x.2.2.1.2.2), (x.2.2.2.1.1, x.2.2.2.1.2.1, x.2.2.2.1.2.2), x.2.2.2.2.1, ()) S)
def L0 (k : Nat) : Pc PG R (.loop (sub (cd Tryz.f36) [tt,tt,tt,tt,ff,tt,ff,ff])) := mkLoop T_ok (C k) _ m0 k (.seq .auto (.seq (.cond .auto (.mask e0 .auto)) (.seq (.block (.seq .auto (.seq .auto (.piece (Q1 k).h)))) .auto))) ⟨tr, ⟨tr, tr⟩, ⟨tr, tr, (Q1 k).ok⟩, tr⟩ (fun K => b0 k (fun o S => K (.ext 0) (Qm e0 o S))) (fun K rec x S => by kernel_rfl)
def fn (k : Nat) (x : ((Nat × Nat) × U1 × U1)) (S : LL) (K : Kt R (LL × Bool × U1)) : Option R :=
  objAt S x.1.1 fun ty c1 => ldSl 8 c1 (x.1.2 + 0) fun l2 => ifB (decide ((l2.length : Int) = (l2.length : Int))) (mkN (l2.length : Int) 8 fun m3 => newObj S (.obj 3 (zeros m3 [(.int .i64 (0 : Int))])) fun i4 S => objAt S x.1.1 fun ty c5 => ldSl 8 c5 (x.1.2 + 0) fun l6 => ifB (decide ((l6.length : Int) = (l6.length : Int))) (mkN (l6.length : Int) 24 fun m7 => newObj S (.obj 45 (zeros m7 [.nilsl])) fun i8 S => objAt S x.1.1 fun ty c9 => ldSl 1 c9 (x.1.2 + 2) fun l10 => rounds (b0 k (fun o37 S => objAt S o37.1.1 fun ty c38 => ldSl 8 c38 (o37.1.2 + 0) fun l39 => ifB (decide ((l39.length : Int) = (l39.length : Int))) (mkN (l39.length : Int) 1 fun m40 => newObj S (.obj 4 (zeros m40 [(.bool false)])) fun i41 S => rounds (b2 k (fun o70 S => K (o70.1, true, ()) S) (fun o71 S => K (o71.1, o71.2.1, ()) S)) k ((), (o37.2.2.1.1, o37.2.2.1.2.1, o37.2.2.1.2.2), (o37.2.2.2.1.1, o37.2.2.2.1.2.1, o37.2.2.2.1.2.2), o37.2.2.2.2.1, (i41, 0, m40), [], ()) S) none)) k ((x.1.1, x.1.2), (), (i4, 0, m3), (i8, 0, m7), (0 : Int), l10, (l10.length : Int), (0 : Int), ()) S) none) none
def en (k : Nat) : Ent PG R := mkFn T_ok Tryz.func36 ps rs (C k) (.seq .auto (.seq (.own [(3, 1)]) (.seq (.own [(3, 1)]) (.seq .auto (.seq (.seq (.own [(3, 1)]) (.block (.piece (L0 k).h))) (.seq (.own [(3, 1)]) (.seq .auto (.seq (.block (.piece (L2 k).h)) (.seq (.own [(0, 1)]) (.mask mr .auto)))))))))) ⟨tr, tr, tr, tr, ⟨tr, (L0 k).ok⟩, tr, tr, (L2 k).ok, tr, tr⟩ (fn k) (by kernel_rfl) (by kernel_rfl) (fun x S K => by kernel_rfl)
end G.steps_plan_order_nils
/-! ### 24: smithyard/steps.open -/
namespace G.steps_open
abbrev e0 : Mk := sL 8 (nX (nX (nX (nX (nX (nX (nX (nX (nX (nX (nX (nX (nX (nX (n2 [])))))))))))))))
abbrev e2 : Mk := sL 8 (n6 (sP (nX (nX (nX (nX (nX (nX (nX (nX (nX (nX (nX (nX (nX (n5 []))))))))))))))))
abbrev e4 : Mk := sL 8 (n6 (sP (sX [.map, .map, .map, .map] (nX (nX (nX (nX (nX (sL 8 (sI (sI (nX (nX (nX (nX (nX (nX (nX (nX (n1 []))))))))))))))))))))
abbrev e6 : Mk := n7 (sP (nX (nX (nX (nX (nX (nX (nX (nX (nX (nX (nX (nX (nX (n5 [])))))))))))))))
abbrev e8 : Mk := n7 (sP (n9 (sh (.lf (.map)) (nX (nX (nX (nX (nX (nX (nX (n7 (sL 8 (sI (sI (nX (nX (nX (nX (n5 [])))))))))))))))))))
abbrev m0 : Mk := sL 8 (nX (nX (n6 (sL 8 (sI (sI (nX (nX (nX (nX (nX (nX (nX (nX (nX (nX (nX (n3 []))))))))))))))))))
abbrev m1 : Mk := sL 8 (n6 (sP (sX [.map, .map, .map, .map] (nX (nX (nX (nX (nX (sL 8 (sI (sI (nX (nX (nX (nX (nX (nX (nX (nX (n1 []))))))))))))))))))))
abbrev m2 : Mk := sL 8 (n6 (sP (sX [.map, .map, .map, .map] (sI (nX (nX (nX (nX (n9 (sL 8 (sI (sI (n6 (sL 1 (sI (sI (nX (nX (nX (nX (nX (nX (nX (n2 []))))))))))))))))))))))))
abbrev m3 : Mk := n7 (sP (nX (nX (nX (nX (nX (nX (nX (nX (n7 (sL 8 (sI (sI (nX (nX (nX (nX (n5 []))))))))))))))))))
abbrev m4 : Mk := n7 (sP (n9 (sh (.lf (.map)) (nX (nX (nX (nX (nX (nX (nX (n7 (sL 8 (sI (sI (n5 (sL 1 (sI (sI (nX (nX (nX (n7 []))))))))))))))))))))))
abbrev mr : Mk := n2 (sh (.lf (.raw)) (sI (nX (nX (nX (nX (nX (nX (nX (nX (nX (nX (nX (nX (nX (n9 []))))))))))))))))
abbrev ps : Mk := sL 8 []
abbrev rs : Mk := sh (.lf (.raw)) (sI [])
def C (k : Nat) : List (Ent PG R) := [steps_plan_order_nils.en k, steps_checkRule.en k, steps_tangleOf.en k, steps_tangle_clashes.en k, ⟨51, H.SortedI.h k, H.SortedI.ok k⟩, maps_Keys_map_int_bool_int_bool.en k]
def b4 (k : Nat) (J8 : Kt R ((Nat × Nat) × Nat × LL × Int × Int × U1)) (rec : Kt R ((Nat × Nat) × Nat × LL × Int × Int × LL × Int × Int × U1)) (x : ((Nat × Nat) × Nat × LL × Int × Int × LL × Int × Int × U1)) (S : LL) : Option R :=
  ifB (decide (x.2.2.2.2.2.2.2.1 < x.2.2.2.2.2.2.1)) (idxL x.2.2.2.2.2.1 x.2.2.2.2.2.2.2.1 fun v54 => asStr (leaf v54 0) fun s55 => objAt S x.1.1 fun ty c56 => ldRaw c56 (x.1.2 + 1) fun v57 => asMap v57 fun i58 => mpAt S i58 .str fun m59 => asInt .i64 ((mapGet m59 (.str s55)).getD (.int .i64 (0 : Int))) fun n60 => ifB (mapGet m59 (.str s55)).isSome (mpAt S x.2.1 (.int .i64) fun m61 => setS (S.set x.2.1 (.mp (.int .i64) (mapPut m61 (.int .i64 n60) (.bool true)))) fun S => rec ((x.1.1, x.1.2), x.2.1, x.2.2.1, x.2.2.2.1, x.2.2.2.2.1, x.2.2.2.2.2.1, x.2.2.2.2.2.2.1, (IntKind.wrap .i64 (x.2.2.2.2.2.2.2.1 + (1 : Int))), ()) S) (rec ((x.1.1, x.1.2), x.2.1, x.2.2.1, x.2.2.2.1, x.2.2.2.2.1, x.2.2.2.2.2.1, x.2.2.2.2.2.2.1, (IntKind.wrap .i64 (x.2.2.2.2.2.2.2.1 + (1 : Int))), ()) S)) (J8 ((x.1.1, x.1.2), x.2.1, x.2.2.1, x.2.2.2.1, x.2.2.2.2.1, ()) S)
def L4 (k : Nat) : Pc PG R (.loop (sub (cd Tryz.f24) [tt,tt,tt,tt,tt,tt,ff,tt,ff,ff,tt,tt,ff,ff,tt,tt,ff,tt,ff,ff])) := mkLoop T_ok (C k) _ m4 k (.seq .auto (.seq (.cond .auto (.mask e8 .auto)) (.seq (.block (.seq .auto (.seq (.own [(3, 3), (6, 1)]) (.seq .auto (.cond .auto .auto))))) .auto))) ⟨tr, ⟨tr, tr⟩, ⟨tr, tr, tr, tr, tr⟩, tr⟩ (fun K => b4 k (fun o S => K (.ext 8) (Qm e8 o S))) (fun K rec x S => by kernel_rfl)
def b2 (k : Nat) (J4 : Kt R (LL × (Nat × Nat) × (Nat × Nat × Nat × Nat × U1) × LL × Int × Int × U1)) (Jret : Kt R (LV × Int × U1)) (rec : Kt R (LL × (Nat × Nat) × (Nat × Nat × Nat × Nat × U1) × Int × LL × Int × Int × LL × Int × Int × U1)) (x : (LL × (Nat × Nat) × (Nat × Nat × Nat × Nat × U1) × Int × LL × Int × Int × LL × Int × Int × U1)) (S : LL) : Option R :=
  ifB (decide (x.2.2.2.2.2.2.2.2.2.1 < x.2.2.2.2.2.2.2.2.1)) (idxL x.2.2.2.2.2.2.2.1 x.2.2.2.2.2.2.2.2.2.1 fun v28 => asStr (leaf v28 0) fun s29 => objAt S x.2.1.1 fun ty c30 => ldRaw c30 (x.2.1.2 + 1) fun v31 => asMap v31 fun i32 => mpAt S i32 .str fun m33 => asInt .i64 ((mapGet m33 (.str s29)).getD (.int .i64 (0 : Int))) fun n34 => ifB (mapGet m33 (.str s29)).isSome (Jret (.nilp, (7 : Int), ()) S) (objAt S x.2.1.1 fun ty c35 => ldRaw c35 (x.2.1.2 + 1) fun v36 => asMap v36 fun i37 => mpAt S i37 .str fun m38 => setS (S.set i37 (.mp .str (mapPut m38 (.str s29) (.int .i64 x.2.2.2.1)))) fun S => steps_tangle_clashes.fn k ((x.2.2.1.1, x.2.2.1.2.1, x.2.2.1.2.2.1, x.2.2.1.2.2.2.1, ()), s29, ()) S fun r39 S => ifB r39.1 (Jret (.nilp, (12 : Int), ()) S) (rec (x.1, (x.2.1.1, x.2.1.2), (x.2.2.1.1, x.2.2.1.2.1, x.2.2.1.2.2.1, x.2.2.1.2.2.2.1, ()), x.2.2.2.1, x.2.2.2.2.1, x.2.2.2.2.2.1, x.2.2.2.2.2.2.1, x.2.2.2.2.2.2.2.1, x.2.2.2.2.2.2.2.2.1, (IntKind.wrap .i64 (x.2.2.2.2.2.2.2.2.2.1 + (1 : Int))), ()) S))) (J4 (x.1, (x.2.1.1, x.2.1.2), (x.2.2.1.1, x.2.2.1.2.1, x.2.2.1.2.2.1, x.2.2.1.2.2.2.1, ()), x.2.2.2.2.1, x.2.2.2.2.2.1, x.2.2.2.2.2.2.1, ()) S)
def L2 (k : Nat) : Pc PG R (.loop (sub (cd Tryz.f24) [tt,tt,tt,tt,tt,ff,tt,ff,ff,tt,tt,ff,ff,tt,tt,ff,ff])) := mkLoop T_ok (C k) _ m2 k (.seq .auto (.seq (.cond .auto (.mask e4 .auto)) (.seq (.block (.seq .auto (.seq (.seq (.own [(3, 3), (6, 1)]) (.seq .auto (.cond (.seq .auto (.mask mr .auto)) .auto))) (.seq (.own [(3, 3)]) (.seq .auto (.cond (.seq .auto (.mask mr .auto)) .auto)))))) .auto))) ⟨tr, ⟨tr, tr⟩, ⟨tr, ⟨tr, tr, ⟨tr, tr⟩, tr⟩, tr, tr, ⟨tr, tr⟩, tr⟩, tr⟩ (fun K => b2 k (fun o S => K (.ext 4) (Qm e4 o S)) (fun o S => K .ret (Qm mr o S))) (fun K rec x S => by kernel_rfl)
def b3 (k : Nat) (J6 : Kt R ((Nat × Nat) × U1)) (rec : Kt R ((Nat × Nat) × LL × Int × Int × U1)) (x : ((Nat × Nat) × LL × Int × Int × U1)) (S : LL) : Option R :=
  ifB (decide (x.2.2.2.1 < x.2.2.1)) (idxL x.2.1 x.2.2.2.1 fun v43 => mat 8 v43 fun c44 => asStr (c44.getD 0 .any) fun s45 => asStr (c44.getD 1 .any) fun s46 => asSl 1 (c44.getD 2 .any) fun l47 => asSl 2 (c44.getD 3 .any) fun l48 => asSl 1 (c44.getD 4 .any) fun l49 => asSl 2 (c44.getD 5 .any) fun l50 => asInt .i64 (c44.getD 6 .any) fun n51 => asSl 1 (c44.getD 7 .any) fun l52 => newObj S (.mp (.int .i64) []) fun i53 S => rounds (b4 k (fun o62 S => ifB (Nat.beq o62.1.1 o62.1.1) (objAt S o62.1.1 fun ty c63 => asOwn 45 1 (c63.getD (o62.1.2 + 2) .any) fun l64 => setS (S.set o62.1.1 (ty (c63.set (o62.1.2 + 2) (.sl 1 l64)))) fun S => maps_Keys_map_int_bool_int_bool.fn k (o62.2.1, ()) (S.set o62.1.1 .any) fun r65 S' => hidR o62.1.1 (S.getD o62.1.1 .any) S' fun S => H.SortedI.fn k (((r65.1.1.1, r65.1.1.2), ()), ()) (S.set o62.1.1 .any) fun r66 S' => hidR o62.1.1 (S.getD o62.1.1 .any) S' fun S => app 24 l64 [(.sl 1 r66.1)] fun l67 => objAt S o62.1.1 fun ty c68 => stO c68 (o62.1.2 + 2) [(.own 45 1 l67)] fun c69 => setS (S.set o62.1.1 (ty c69)) fun S => rec ((o62.1.1, o62.1.2), o62.2.2.1, o62.2.2.2.1, (IntKind.wrap .i64 (o62.2.2.2.2.1 + (1 : Int))), ()) S) none)) k ((x.1.1, x.1.2), i53, x.2.1, x.2.2.1, x.2.2.2.1, l52, (l52.length : Int), (0 : Int), ()) S) (J6 ((x.1.1, x.1.2), ()) S)
def L3 (k : Nat) : Pc PG R (.loop (sub (cd Tryz.f24) [tt,tt,tt,tt,tt,tt,ff,tt,ff,ff])) := mkLoop T_ok (C k) _ m3 k (.seq .auto (.seq (.cond .auto (.mask e6 .auto)) (.seq (.block (.seq .auto (.seq .auto (.seq (.seq .auto (.block (.piece (L4 k).h))) (.hide 7 [(4, 2), (12, 2)] [0, 1, 2, 3, 5, 4, 6, 7, 8, 9, 10, 11, 12]))))) .auto))) ⟨tr, ⟨tr, tr⟩, ⟨tr, tr, ⟨tr, (L4 k).ok⟩, (hide_an (by kernel_rfl))⟩, tr⟩ (fun K => b3 k (fun o S => K (.ext 6) (Qm e6 o S))) (fun K rec x S => by kernel_rfl)
def b1 (k : Nat) (J2 : Kt R (LL × (Nat × Nat) × U1)) (Jret : Kt R (LV × Int × U1)) (rec : Kt R (LL × (Nat × Nat) × (Nat × Nat × Nat × Nat × U1) × LL × Int × Int × U1)) (x : (LL × (Nat × Nat) × (Nat × Nat × Nat × Nat × U1) × LL × Int × Int × U1)) (S : LL) : Option R :=
  ifB (decide (x.2.2.2.2.2.1 < x.2.2.2.2.1)) (idxL x.2.2.2.1 x.2.2.2.2.2.1 fun v18 => mat 8 v18 fun c19 => asStr (c19.getD 0 .any) fun s20 => asStr (c19.getD 1 .any) fun s21 => asSl 1 (c19.getD 2 .any) fun l22 => asSl 2 (c19.getD 3 .any) fun l23 => asSl 1 (c19.getD 4 .any) fun l24 => asSl 2 (c19.getD 5 .any) fun l25 => asInt .i64 (c19.getD 6 .any) fun n26 => asSl 1 (c19.getD 7 .any) fun l27 => rounds (b2 k (fun o40 S => rec (o40.1, (o40.2.1.1, o40.2.1.2), (o40.2.2.1.1, o40.2.2.1.2.1, o40.2.2.1.2.2.1, o40.2.2.1.2.2.2.1, ()), o40.2.2.2.1, o40.2.2.2.2.1, (IntKind.wrap .i64 (o40.2.2.2.2.2.1 + (1 : Int))), ()) S) (fun o41 S => Jret (o41.1, o41.2.1, ()) S)) k (x.1, (x.2.1.1, x.2.1.2), (x.2.2.1.1, x.2.2.1.2.1, x.2.2.1.2.2.1, x.2.2.1.2.2.2.1, ()), x.2.2.2.2.2.1, x.2.2.2.1, x.2.2.2.2.1, x.2.2.2.2.2.1, l24, (l24.length : Int), (0 : Int), ()) S) (J2 (x.1, (x.2.1.1, x.2.1.2), ()) S)
def L1 (k : Nat) : Pc PG R (.loop (sub (cd Tryz.f24) [tt,tt,tt,tt,tt,ff,tt,ff,ff])) := mkLoop T_ok (C k) _ m1 k (.seq .auto (.seq (.cond .auto (.mask e2 .auto)) (.seq (.block (.seq .auto (.seq .auto (.block (.piece (L2 k).h))))) .auto))) ⟨tr, ⟨tr, tr⟩, ⟨tr, tr, (L2 k).ok⟩, tr⟩ (fun K => b1 k (fun o S => K (.ext 2) (Qm e2 o S)) (fun o S => K .ret (Qm mr o S))) (fun K rec x S => by kernel_rfl)
def b0 (k : Nat) (J0 : Kt R (LL × U1)) (Jret : Kt R (LV × Int × U1)) (rec : Kt R (LL × LL × Int × Int × U1)) (x : (LL × LL × Int × Int × U1)) (S : LL) : Option R :=
  ifB (decide (x.2.2.2.1 < x.2.2.1)) (idxL x.2.1 x.2.2.2.1 fun v1 => mat 8 v1 fun c2 => asStr (c2.getD 0 .any) fun s3 => asStr (c2.getD 1 .any) fun s4 => asSl 1 (c2.getD 2 .any) fun l5 => asSl 2 (c2.getD 3 .any) fun l6 => asSl 1 (c2.getD 4 .any) fun l7 => asSl 2 (c2.getD 5 .any) fun l8 => asInt .i64 (c2.getD 6 .any) fun n9 => asSl 1 (c2.getD 7 .any) fun l10 => steps_checkRule.fn k ((s3, s4, l5, l6, l7, l8, n9, l10, ()), ()) S fun r11 S => ifB (r11.1 != (0 : Int)) (Jret (.nilp, r11.1, ()) S) (ifB (decide (x.2.2.2.1 > (0 : Int))) (idxL x.1 (IntKind.wrap .i64 (x.2.2.2.1 - (1 : Int))) fun v12 => asStr (leaf v12 0) fun s13 => ifB (strLt s3 s13 || strEq s3 s13) (Jret (.nilp, (8 : Int), ()) S) (rec (x.1, x.2.1, x.2.2.1, (IntKind.wrap .i64 (x.2.2.2.1 + (1 : Int))), ()) S)) (rec (x.1, x.2.1, x.2.2.1, (IntKind.wrap .i64 (x.2.2.2.1 + (1 : Int))), ()) S))) (J0 (x.1, ()) S)
def L0 (k : Nat) : Pc PG R (.loop (sub (cd Tryz.f24) [tt,tt,ff,tt,ff,ff])) := mkLoop T_ok (C k) _ m0 k (.seq .auto (.seq (.cond .auto (.mask e0 .auto)) (.seq (.block (.seq .auto (.seq (.seq .auto (.seq .auto (.cond (.seq .auto (.mask mr .auto)) .auto))) (.seq (.drawn [] [0, 1, 2, 3, 4, 5, 6, 7, 8, 9, 10, 11, 12]) (.cond (.seq .auto (.mask mr .auto)) .auto))))) .auto))) ⟨tr, ⟨tr, tr⟩, ⟨tr, ⟨tr, tr, ⟨tr, tr⟩, tr⟩, (drawn_an (by kernel_rfl)), ⟨tr, tr⟩, tr⟩, tr⟩ (fun K => b0 k (fun o S => K (.ext 0) (Qm e0 o S)) (fun o S => K .ret (Qm mr o S))) (fun K rec x S => by kernel_rfl)
def fn (k : Nat) (x : (LL × U1)) (S : LL) (K : Kt R (LV × Int × U1)) : Option R :=
  ifB (decide ((x.1.length : Int) > (500 : Int))) (K (.nilp, (2 : Int), ()) S) (rounds (b0 k (fun o14 S => newObj S (.mp .str []) fun i15 S => newObj S (.obj 66 [(.sl 8 o14.1), (.map i15), .nilsl]) fun i16 S => steps_tangleOf.fn k (o14.1, ()) S fun r17 S => rounds (b1 k (fun o42 S => rounds (b3 k (fun o70 S => steps_plan_order_nils.fn k ((o70.1.1, o70.1.2), (), ()) S fun r71 S => ifB (!r71.2.1) (K (.nilp, (17 : Int), ()) S) (K ((.ptr o70.1.1 o70.1.2), (0 : Int), ()) S))) k ((o42.2.1.1, o42.2.1.2), o42.1, (o42.1.length : Int), (0 : Int), ()) S) (fun o72 S => K (o72.1, o72.2.1, ()) S)) k (o14.1, (i16, 0), (r17.1.1, r17.1.2.1, r17.1.2.2.1, r17.1.2.2.2.1, ()), o14.1, (o14.1.length : Int), (0 : Int), ()) S) (fun o73 S => K (o73.1, o73.2.1, ()) S)) k (x.1, x.1, (x.1.length : Int), (0 : Int), ()) S)
def en (k : Nat) : Ent PG R := mkFn T_ok Tryz.func24 ps rs (C k) (.seq .auto (.seq (.seq .auto (.cond (.seq .auto (.mask mr .auto)) .auto)) (.seq (.seq .auto (.block (.piece (L0 k).h))) (.seq (.own [(3, 1)]) (.seq .auto (.seq (.seq .auto (.block (.piece (L1 k).h))) (.seq (.seq .auto (.block (.piece (L3 k).h))) (.seq (.seq (.own [(2, 1)]) (.seq .auto (.cond (.seq .auto (.mask mr .auto)) .auto))) (.seq .auto (.mask mr .auto)))))))))) ⟨tr, ⟨tr, ⟨tr, tr⟩, tr⟩, ⟨tr, (L0 k).ok⟩, tr, tr, ⟨tr, (L1 k).ok⟩, ⟨tr, (L3 k).ok⟩, ⟨tr, tr, ⟨tr, tr⟩, tr⟩, tr, tr⟩ (fn k) (by kernel_rfl) (by kernel_rfl) (fun x S K => by kernel_rfl)
end G.steps_open
/-! ### 9: smithyard/steps.Edges -/
namespace G.steps_Edges
abbrev e0 : Mk := n6 (sO 33 2 (nX (nX (nX (nX (n5 []))))))
abbrev e2 : Mk := sL 8 (n5 (sO 33 2 (nX (n5 (sL 1 (sI (sI (nX (nX (n7 []))))))))))
abbrev m0 : Mk := sL 8 (n5 (sO 33 2 (nX (n5 (sL 1 (sI (sI (nX (nX (n7 []))))))))))
abbrev m1 : Mk := sL 8 (n5 (sO 33 2 (sI (nX (n4 (sL 1 (sI (sI (n4 (sL 1 (sI (sI (nX (nX []))))))))))))))
abbrev mr : Mk := n2 (sO 33 2 (sI (nX (nX (nX (nX (n8 [])))))))
abbrev ps : Mk := sL 8 []
abbrev rs : Mk := sO 33 2 (sI [])
def C (k : Nat) : List (Ent PG R) := [steps_open.en k]
def b1 (k : Nat) (J2 : Kt R (LL × LL × LL × Int × Int × U1)) (rec : Kt R (LL × LL × Int × LL × Int × Int × LL × Int × Int × U1)) (x : (LL × LL × Int × LL × Int × Int × LL × Int × Int × U1)) (S : LL) : Option R :=
  ifB (decide (x.2.2.2.2.2.2.2.2.1 < x.2.2.2.2.2.2.2.1)) (idxL x.2.2.2.2.2.2.1 x.2.2.2.2.2.2.2.2.1 fun v8 => asInt .i64 (leaf v8 0) fun n9 => idxL x.1 x.2.2.1 fun v10 => asStr (leaf v10 0) fun s11 => idxL x.1 n9 fun v12 => asStr (leaf v12 0) fun s13 => app 32 x.2.1 [(.agg [(.str s11), (.str s13)])] fun l14 => rec (x.1, l14, x.2.2.1, x.2.2.2.1, x.2.2.2.2.1, x.2.2.2.2.2.1, x.2.2.2.2.2.2.1, x.2.2.2.2.2.2.2.1, (IntKind.wrap .i64 (x.2.2.2.2.2.2.2.2.1 + (1 : Int))), ()) S) (J2 (x.1, x.2.1, x.2.2.2.1, x.2.2.2.2.1, x.2.2.2.2.2.1, ()) S)
def L1 (k : Nat) : Pc PG R (.loop (sub (cd Tryz.f9) [tt,tt,tt,tt,ff,tt,ff,ff,tt,tt,ff,ff,tt,tt,ff,ff])) := mkLoop T_ok (C k) _ m1 k (.seq .auto (.seq (.cond .auto (.mask e2 .auto)) (.seq (.block (.seq .auto (.drawn [(0, 1)] [0, 1, 2, 3, 4, 5, 6, 7, 8, 9, 10, 11, 12, 13, 14]))) .auto))) ⟨tr, ⟨tr, tr⟩, ⟨tr, (drawn_an (by kernel_rfl))⟩, tr⟩ (fun K => b1 k (fun o S => K (.ext 2) (Qm e2 o S))) (fun K rec x S => by kernel_rfl)
def b0 (k : Nat) (J0 : Kt R (LL × U1)) (rec : Kt R (LL × LL × LL × Int × Int × U1)) (x : (LL × LL × LL × Int × Int × U1)) (S : LL) : Option R :=
  ifB (decide (x.2.2.2.2.1 < x.2.2.2.1)) (idxL x.2.2.1 x.2.2.2.2.1 fun v6 => asSl 1 (leaf v6 0) fun l7 => rounds (b1 k (fun o15 S => rec (o15.1, o15.2.1, o15.2.2.1, o15.2.2.2.1, (IntKind.wrap .i64 (o15.2.2.2.2.1 + (1 : Int))), ()) S)) k (x.1, x.2.1, x.2.2.2.2.1, x.2.2.1, x.2.2.2.1, x.2.2.2.2.1, l7, (l7.length : Int), (0 : Int), ()) S) (J0 (x.2.1, ()) S)
def L0 (k : Nat) : Pc PG R (.loop (sub (cd Tryz.f9) [tt,tt,tt,tt,ff,tt,ff,ff])) := mkLoop T_ok (C k) _ m0 k (.seq .auto (.seq (.cond .auto (.mask e0 .auto)) (.seq (.block (.seq .auto (.seq .auto (.block (.piece (L1 k).h))))) .auto))) ⟨tr, ⟨tr, tr⟩, ⟨tr, tr, (L1 k).ok⟩, tr⟩ (fun K => b0 k (fun o S => K (.ext 0) (Qm e0 o S))) (fun K rec x S => by kernel_rfl)
def fn0 (k : Nat) (x : (LL × U1)) (S : LL) (K : Kt R (LL × Int × U1)) : Option R :=
  steps_open.fn k (x.1, ()) S fun r1 S => ifB (r1.2.1 != (0 : Int)) (K ([], r1.2.1, ()) S) (asPtr (dup r1.1) fun i2 p3 => objAt S i2 fun ty c4 => ldSl 1 c4 (p3 + 2) fun l5 => rounds (b0 k (fun o16 S => K (o16.1, (0 : Int), ()) S)) k (x.1, [], l5, (l5.length : Int), (0 : Int), ()) S)
def en0 (k : Nat) : Ent PG R := mkFn T_ok Tryz.func9 ps rs (C k) (.seq .auto (.seq (.own [(2, 1)]) (.seq (.seq .auto (.cond (.seq .auto (.mask mr .auto)) .auto)) (.seq .auto (.seq (.seq (.own [(0, 2), (1, 1), (3, 1)]) (.block (.piece (L0 k).h))) (.seq (.own [(0, 1)]) (.mask mr .auto))))))) ⟨tr, tr, ⟨tr, ⟨tr, tr⟩, tr⟩, tr, ⟨tr, (L0 k).ok⟩, tr, tr⟩ (fn0 k) (by kernel_rfl) (by kernel_rfl) (fun x S K => by kernel_rfl)
def fn (k : Nat) (x : (LL × U1)) (S : LL) (K : Kt R (LL × Int × U1)) : Option R := popK rs 6 S (fn0 k x S fun r S => some (resE rs r, S)) K
def en (k : Nat) : Ent PG R := mkPop (rs := rs) (en0 k).ok
end G.steps_Edges
/-! ### 69: smithyard/smithyardref1.within -/
namespace G.smithyardref1_within
abbrev mr : Mk := n6 (sB (n8 []))
abbrev ps : Mk := sI (sI (sI []))
abbrev rs : Mk := sB []
def C (k : Nat) : List (Ent PG R) := []
def fn (k : Nat) (x : (Int × Int × Int × U1)) (S : LL) (K : Kt R (Bool × U1)) : Option R :=
  ifB (decide (x.1 ≥ x.2.1)) (K ((decide (x.1 ≤ x.2.2.1)), ()) S) (K (false, ()) S)
def en (k : Nat) : Ent PG R := mkFn T_ok Tryz.func69 ps rs (C k) (.seq .auto (.seq .auto (.mask mr .auto))) ⟨tr, tr, tr⟩ (fn k) (by kernel_rfl) (by kernel_rfl) (fun x S K => by kernel_rfl)
end G.smithyardref1_within
/-! ### 101: smithyard/smithyardref1.partByte -/
namespace G.smithyardref1_partByte
abbrev mr : Mk := n2 (sB (nX (nX (nX (n8 [])))))
abbrev ps : Mk := sh (.lf (.int .u8)) []
abbrev rs : Mk := sB []
def C (k : Nat) : List (Ent PG R) := []
def fn (k : Nat) (x : (Int × U1)) (S : LL) (K : Kt R (Bool × U1)) : Option R :=
  ifB (decide (x.1 ≥ (97 : Int))) (ifB (decide (x.1 ≤ (122 : Int))) (K (true, ()) S) (ifB (decide (x.1 ≥ (65 : Int))) (ifB (decide (x.1 ≤ (90 : Int))) (K (true, ()) S) (ifB (decide (x.1 ≥ (48 : Int))) (ifB (decide (x.1 ≤ (57 : Int))) (K (true, ()) S) (ifB (x.1 == (46 : Int)) (K (true, ()) S) (ifB (x.1 == (95 : Int)) (K (true, ()) S) (ifB (x.1 == (45 : Int)) (K (true, ()) S) (K ((x.1 == (43 : Int)), ()) S))))) (ifB (x.1 == (46 : Int)) (K (true, ()) S) (ifB (x.1 == (95 : Int)) (K (true, ()) S) (ifB (x.1 == (45 : Int)) (K (true, ()) S) (K ((x.1 == (43 : Int)), ()) S)))))) (ifB (decide (x.1 ≥ (48 : Int))) (ifB (decide (x.1 ≤ (57 : Int))) (K (true, ()) S) (ifB (x.1 == (46 : Int)) (K (true, ()) S) (ifB (x.1 == (95 : Int)) (K (true, ()) S) (ifB (x.1 == (45 : Int)) (K (true, ()) S) (K ((x.1 == (43 : Int)), ()) S))))) (ifB (x.1 == (46 : Int)) (K (true, ()) S) (ifB (x.1 == (95 : Int)) (K (true, ()) S) (ifB (x.1 == (45 : Int)) (K (true, ()) S) (K ((x.1 == (43 : Int)), ()) S))))))) (ifB (decide (x.1 ≥ (65 : Int))) (ifB (decide (x.1 ≤ (90 : Int))) (K (true, ()) S) (ifB (decide (x.1 ≥ (48 : Int))) (ifB (decide (x.1 ≤ (57 : Int))) (K (true, ()) S) (ifB (x.1 == (46 : Int)) (K (true, ()) S) (ifB (x.1 == (95 : Int)) (K (true, ()) S) (ifB (x.1 == (45 : Int)) (K (true, ()) S) (K ((x.1 == (43 : Int)), ()) S))))) (ifB (x.1 == (46 : Int)) (K (true, ()) S) (ifB (x.1 == (95 : Int)) (K (true, ()) S) (ifB (x.1 == (45 : Int)) (K (true, ()) S) (K ((x.1 == (43 : Int)), ()) S)))))) (ifB (decide (x.1 ≥ (48 : Int))) (ifB (decide (x.1 ≤ (57 : Int))) (K (true, ()) S) (ifB (x.1 == (46 : Int)) (K (true, ()) S) (ifB (x.1 == (95 : Int)) (K (true, ()) S) (ifB (x.1 == (45 : Int)) (K (true, ()) S) (K ((x.1 == (43 : Int)), ()) S))))) (ifB (x.1 == (46 : Int)) (K (true, ()) S) (ifB (x.1 == (95 : Int)) (K (true, ()) S) (ifB (x.1 == (45 : Int)) (K (true, ()) S) (K ((x.1 == (43 : Int)), ()) S))))))
def en (k : Nat) : Ent PG R := mkFn T_ok Tryz.func101 ps rs (C k) (.seq .auto (.seq .auto (.mask mr .auto))) ⟨tr, tr, tr⟩ (fn k) (by kernel_rfl) (by kernel_rfl) (fun x S K => by kernel_rfl)
end G.smithyardref1_partByte
/-! ### 70: smithyard/smithyardref1.isPart -/
namespace G.smithyardref1_isPart
abbrev e0 : Mk := sS (nX (nX (n4 [])))
abbrev m0 : Mk := sS (n2 (sI (nX (nX (n1 [])))))
abbrev mr : Mk := n2 (sB (nX (nX (n2 []))))
abbrev ps : Mk := sS []
abbrev rs : Mk := sB []
def C (k : Nat) : List (Ent PG R) := [smithyardref1_partByte.en k]
def b0 (k : Nat) (J0 : Kt R (BA × U1)) (Jret : Kt R (Bool × U1)) (rec : Kt R (BA × Int × U1)) (x : (BA × Int × U1)) (S : LL) : Option R :=
  ifB (decide (x.2.1 < (x.1.size : Int))) (idxStr x.1 x.2.1 fun c1 => smithyardref1_partByte.fn k (c1, ()) S fun r2 S => ifB (!r2.1) (Jret (false, ()) S) (rec (x.1, (IntKind.wrap .i64 (x.2.1 + (1 : Int))), ()) S)) (J0 (x.1, ()) S)
def L0 (k : Nat) : Pc PG R (.loop (sub (cd Tryz.f70) [tt,ff,tt,ff,ff])) := mkLoop T_ok (C k) _ m0 k (.seq (.seq .auto (.cond .auto (.mask e0 .auto))) (.seq (.block (.seq .auto (.cond (.seq .auto (.mask mr .auto)) .auto))) .auto)) ⟨⟨tr, tr, tr⟩, ⟨tr, ⟨tr, tr⟩, tr⟩, tr⟩ (fun K => b0 k (fun o S => K (.ext 0) (Qm e0 o S)) (fun o S => K .ret (Qm mr o S))) (fun K rec x S => by kernel_rfl)
def fn (k : Nat) (x : (BA × U1)) (S : LL) (K : Kt R (Bool × U1)) : Option R :=
  rounds (b0 k (fun o3 S => ifB (!(strEq o3.1 (bs []))) (ifB (!(strEq o3.1 (bs [46]))) (K ((!(strEq o3.1 (bs [46, 46]))), ()) S) (K (false, ()) S)) (K (false, ()) S)) (fun o4 S => K (o4.1, ()) S)) k (x.1, (0 : Int), ()) S
def en (k : Nat) : Ent PG R := mkFn T_ok Tryz.func70 ps rs (C k) (.seq .auto (.seq (.seq .auto (.block (.piece (L0 k).h))) (.seq .auto (.mask mr .auto)))) ⟨tr, ⟨tr, (L0 k).ok⟩, tr, tr⟩ (fn k) (by kernel_rfl) (by kernel_rfl) (fun x S K => by kernel_rfl)
end G.smithyardref1_isPart
/-! ### 41: smithyard/smithyardref1.IsPath -/
namespace G.smithyardref1_IsPath
abbrev e0 : Mk := nX (nX (n3 []))
abbrev m0 : Mk := n3 (sL 1 (sI (nX (n8 []))))
abbrev mr : Mk := n2 (sB (nX (nX [])))
abbrev ps : Mk := sS []
abbrev rs : Mk := sB []
def C (k : Nat) : List (Ent PG R) := [strings_Split.en k, smithyardref1_within.en k, smithyardref1_isPart.en k]
def b0 (k : Nat) (J0 : Kt R (U1)) (Jret : Kt R (Bool × U1)) (rec : Kt R (LL × Int × U1)) (x : (LL × Int × U1)) (S : LL) : Option R :=
  ifB (decide (x.2.1 < (x.1.length : Int))) (idxL x.1 x.2.1 fun v3 => asStr (leaf v3 0) fun s4 => smithyardref1_isPart.fn k (s4, ()) S fun r5 S => ifB (!r5.1) (Jret (false, ()) S) (rec (x.1, (IntKind.wrap .i64 (x.2.1 + (1 : Int))), ()) S)) (J0 (()) S)
def L0 (k : Nat) : Pc PG R (.loop (sub (cd Tryz.f41) [tt,tt,tt,ff,tt,ff,ff])) := mkLoop T_ok (C k) _ m0 k (.seq (.seq .auto (.cond .auto (.mask e0 .auto))) (.seq (.block (.seq .auto (.cond (.seq .auto (.mask mr .auto)) .auto))) .auto)) ⟨⟨tr, tr, tr⟩, ⟨tr, ⟨tr, tr⟩, tr⟩, tr⟩ (fun K => b0 k (fun o S => K (.ext 0) (Qm e0 o S)) (fun o S => K .ret (Qm mr o S))) (fun K rec x S => by kernel_rfl)
def fn (k : Nat) (x : (BA × U1)) (S : LL) (K : Kt R (Bool × U1)) : Option R :=
  smithyardref1_within.fn k ((x.1.size : Int), (1 : Int), (200 : Int), ()) S fun r1 S => ifB (!r1.1) (K (false, ()) S) (strings_Split.fn k (x.1, (bs [47]), ()) S fun r2 S => rounds (b0 k (fun o6 S => K (true, ()) S) (fun o7 S => K (o7.1, ()) S)) k (r2.1, (0 : Int), ()) S)
def en (k : Nat) : Ent PG R := mkFn T_ok Tryz.func41 ps rs (C k) (.seq .auto (.seq (.seq .auto (.cond (.seq .auto (.mask mr .auto)) .auto)) (.seq .auto (.seq (.seq .auto (.block (.piece (L0 k).h))) (.seq .auto (.mask mr .auto)))))) ⟨tr, ⟨tr, ⟨tr, tr⟩, tr⟩, tr, ⟨tr, (L0 k).ok⟩, tr, tr⟩ (fn k) (by kernel_rfl) (by kernel_rfl) (fun x S K => by kernel_rfl)
end G.smithyardref1_IsPath
/-! ### 93: smithyard/smithyardref1.IsDigest -/
namespace G.smithyardref1_IsDigest
abbrev c0 : Mk := sS (n2 (sI (nX (nX (nX (n2 []))))))
abbrev z0 : Mk := sS (n2 (sI (nX (nX (nX (n2 []))))))
abbrev e0 : Mk := sS (nX (nX (nX (n5 []))))
abbrev m0 : Mk := sS (n2 (sI (nX (nX (nX (n2 []))))))
abbrev mr : Mk := n2 (sB (nX (nX (nX (n3 [])))))
abbrev ps : Mk := sS []
abbrev rs : Mk := sB []
def C (k : Nat) : List (Ent PG R) := []
def q0 (k : Nat) (Jnrm : Kt R (BA × Int × U1))  (x : (BA × Int × U1)) (S : LL) : Option R :=
  Jnrm (x.1, (IntKind.wrap .i64 (x.2.1 + (1 : Int))), ()) S
def Q0 (k : Nat) : Pc PG R (sub (cd Tryz.f93) [tt,ff,tt,ff,ff,tt,tt]) := mkEnd T_ok (C k) _ c0 z0 (.auto) tr (fun x S K => q0 k (fun o S => K .nrm (Qm z0 o S))  x S) (fun x S K => by kernel_rfl)
def b0 (k : Nat) (J0 : Kt R (BA × U1)) (Jret : Kt R (Bool × U1)) (rec : Kt R (BA × Int × U1)) (x : (BA × Int × U1)) (S : LL) : Option R :=
  ifB (decide (x.2.1 < (x.1.size : Int))) (idxStr x.1 x.2.1 fun c1 => ifB (decide (c1 ≥ (48 : Int))) (idxStr x.1 x.2.1 fun c2 => ifB (decide (c2 ≤ (57 : Int))) (ifB (!true) (Jret (false, ()) S) (q0 k (fun o3 S => rec (o3.1, o3.2.1, ()) S) (x.1, x.2.1, ()) S)) (idxStr x.1 x.2.1 fun c4 => ifB (decide (c4 ≥ (97 : Int))) (idxStr x.1 x.2.1 fun c5 => ifB (!(decide (c5 ≤ (102 : Int)))) (Jret (false, ()) S) (q0 k (fun o6 S => rec (o6.1, o6.2.1, ()) S) (x.1, x.2.1, ()) S)) (ifB (!false) (Jret (false, ()) S) (q0 k (fun o7 S => rec (o7.1, o7.2.1, ()) S) (x.1, x.2.1, ()) S)))) (idxStr x.1 x.2.1 fun c8 => ifB (decide (c8 ≥ (97 : Int))) (idxStr x.1 x.2.1 fun c9 => ifB (!(decide (c9 ≤ (102 : Int)))) (Jret (false, ()) S) (q0 k (fun o10 S => rec (o10.1, o10.2.1, ()) S) (x.1, x.2.1, ()) S)) (ifB (!false) (Jret (false, ()) S) (q0 k (fun o11 S => rec (o11.1, o11.2.1, ()) S) (x.1, x.2.1, ()) S)))) (J0 (x.1, ()) S)
def L0 (k : Nat) : Pc PG R (.loop (sub (cd Tryz.f93) [tt,ff,tt,ff,ff])) := mkLoop T_ok (C k) _ m0 k (.seq (.seq .auto (.cond .auto (.mask e0 .auto))) (.seq (.block (.seq .auto (.cond (.seq .auto (.mask mr .auto)) .auto))) (.piece (Q0 k).h))) ⟨⟨tr, tr, tr⟩, ⟨tr, ⟨tr, tr⟩, tr⟩, (Q0 k).ok⟩ (fun K => b0 k (fun o S => K (.ext 0) (Qm e0 o S)) (fun o S => K .ret (Qm mr o S))) (fun K rec x S => by kernel_rfl)
def fn (k : Nat) (x : (BA × U1)) (S : LL) (K : Kt R (Bool × U1)) : Option R :=
  rounds (b0 k (fun o12 S => K (((o12.1.size : Int) == (16 : Int)), ()) S) (fun o13 S => K (o13.1, ()) S)) k (x.1, (0 : Int), ()) S
def en (k : Nat) : Ent PG R := mkFn T_ok Tryz.func93 ps rs (C k) (.seq .auto (.seq (.seq .auto (.block (.piece (L0 k).h))) (.seq .auto (.mask mr .auto)))) ⟨tr, ⟨tr, (L0 k).ok⟩, tr, tr⟩ (fn k) (by kernel_rfl) (by kernel_rfl) (fun x S K => by kernel_rfl)
end G.smithyardref1_IsDigest
/-! ### 97: smithyard/smithyardref5.within -/
namespace G.smithyardref5_within
abbrev mr : Mk := n6 (sB (n8 []))
abbrev ps : Mk := sI (sI (sI []))
abbrev rs : Mk := sB []
def C (k : Nat) : List (Ent PG R) := []
def fn (k : Nat) (x : (Int × Int × Int × U1)) (S : LL) (K : Kt R (Bool × U1)) : Option R :=
  ifB (decide (x.1 ≥ x.2.1)) (K ((decide (x.1 ≤ x.2.2.1)), ()) S) (K (false, ()) S)
def en (k : Nat) : Ent PG R := mkFn T_ok Tryz.func97 ps rs (C k) (.seq .auto (.seq .auto (.mask mr .auto))) ⟨tr, tr, tr⟩ (fn k) (by kernel_rfl) (by kernel_rfl) (fun x S K => by kernel_rfl)
end G.smithyardref5_within
/-! ### 126: smithyard/smithyardref5.bytesIn -/
namespace G.smithyardref5_bytesIn
abbrev e0 : Mk := nX (nX (n6 []))
abbrev m0 : Mk := sS (sh (.lf (.int .u8)) (sh (.lf (.int .u8)) (n4 (sI (nX (n8 []))))))
abbrev mr : Mk := n6 (sB (nX (n9 [])))
abbrev ps : Mk := sS (sh (.lf (.int .u8)) (sh (.lf (.int .u8)) []))
abbrev rs : Mk := sB []
def C (k : Nat) : List (Ent PG R) := []
def b0 (k : Nat) (J0 : Kt R (U1)) (Jret : Kt R (Bool × U1)) (rec : Kt R (BA × Int × Int × Int × U1)) (x : (BA × Int × Int × Int × U1)) (S : LL) : Option R :=
  ifB (decide (x.2.2.2.1 < (x.1.size : Int))) (idxStr x.1 x.2.2.2.1 fun c1 => ifB (decide (c1 < x.2.1)) (Jret (false, ()) S) (idxStr x.1 x.2.2.2.1 fun c2 => ifB (decide (c2 > x.2.2.1)) (Jret (false, ()) S) (rec (x.1, x.2.1, x.2.2.1, (IntKind.wrap .i64 (x.2.2.2.1 + (1 : Int))), ()) S))) (J0 (()) S)
def L0 (k : Nat) : Pc PG R (.loop (sub (cd Tryz.f126) [tt,ff,tt,ff,ff])) := mkLoop T_ok (C k) _ m0 k (.seq (.seq .auto (.cond .auto (.mask e0 .auto))) (.seq (.block (.seq .auto (.cond (.seq .auto (.mask mr .auto)) .auto))) .auto)) ⟨⟨tr, tr, tr⟩, ⟨tr, ⟨tr, tr⟩, tr⟩, tr⟩ (fun K => b0 k (fun o S => K (.ext 0) (Qm e0 o S)) (fun o S => K .ret (Qm mr o S))) (fun K rec x S => by kernel_rfl)
def fn (k : Nat) (x : (BA × Int × Int × U1)) (S : LL) (K : Kt R (Bool × U1)) : Option R :=
  rounds (b0 k (fun o3 S => K (true, ()) S) (fun o4 S => K (o4.1, ()) S)) k (x.1, x.2.1, x.2.2.1, (0 : Int), ()) S
def en (k : Nat) : Ent PG R := mkFn T_ok Tryz.func126 ps rs (C k) (.seq .auto (.seq (.seq .auto (.block (.piece (L0 k).h))) (.seq .auto (.mask mr .auto)))) ⟨tr, ⟨tr, (L0 k).ok⟩, tr, tr⟩ (fn k) (by kernel_rfl) (by kernel_rfl) (fun x S K => by kernel_rfl)
end G.smithyardref5_bytesIn
/-! ### 127: smithyard/smithyardref5.form -/
namespace G.smithyardref5_form
abbrev c0 : Mk := n4 (sS (n2 (sB (nX (nX (n1 []))))))
abbrev c1 : Mk := n4 (sS (nX (sB (nX (n3 [])))))
abbrev c2 : Mk := n4 (sS (nX (n2 (sB (nX (n1 []))))))
abbrev c3 : Mk := n4 (sS (nX (n4 (sB (n9 [])))))
abbrev c4 : Mk := n4 (sS (nX (n6 (sB (n7 [])))))
abbrev c5 : Mk := n4 (sS (nX (n8 (sB (n5 [])))))
abbrev c6 : Mk := n4 (sS (nX (nX (sB (n3 [])))))
abbrev z0 : Mk := nX (nX (n9 []))
abbrev z1 : Mk := nX (nX (n9 []))
abbrev z2 : Mk := nX (nX (n9 []))
abbrev z3 : Mk := nX (nX (n9 []))
abbrev z4 : Mk := nX (nX (n9 []))
abbrev z5 : Mk := nX (nX (n9 []))
abbrev z6 : Mk := nX (nX (n9 []))
abbrev mr : Mk := n2 (sS (sB (nX (nX (n5 [])))))
abbrev ps : Mk := sS []
abbrev rs : Mk := sS (sB [])
def C (k : Nat) : List (Ent PG R) := []
def q6 (k : Nat) (Jnrm : Kt R (U1)) (Jret : Kt R (BA × Bool × U1)) (x : (BA × Bool × U1)) (S : LL) : Option R :=
  ifB x.2.1 (Jret ((bs [112]), true, ()) S) (ifB (strEq x.1 (bs [102, 97, 105, 108])) (Jret ((bs [110]), true, ()) S) (Jnrm (()) S))
def Q6 (k : Nat) : Pc PG R (sub (cd Tryz.f127) [tt,ff,tt,ff,tt,tt,tt,tt,tt,tt,tt,tt,tt,tt,tt,tt,tt,tt,tt]) := mkEnd T_ok (C k) _ c6 z6 (.cond (.seq .auto (.mask mr .auto)) (.seq .auto (.cond (.seq .auto (.mask mr .auto)) .auto))) ⟨⟨tr, tr⟩, tr, ⟨tr, tr⟩, tr⟩ (fun x S K => q6 k (fun o S => K .nrm (Qm z6 o S)) (fun o S => K .ret (Qm mr o S)) x S) (fun x S K => by kernel_rfl)
def q5 (k : Nat) (Jnrm : Kt R (U1)) (Jret : Kt R (BA × Bool × U1)) (x : (BA × Bool × U1)) (S : LL) : Option R :=
  ifB x.2.1 (Jret ((bs [119, 43]), true, ()) S) (q6 k (fun o1 S => Jnrm (()) S) (fun o2 S => Jret (o2.1, o2.2.1, ()) S) (x.1, (strEq x.1 (bs [110, 101, 101, 100])), ()) S)
def Q5 (k : Nat) : Pc PG R (sub (cd Tryz.f127) [tt,ff,tt,ff,tt,tt,tt,tt,tt,tt,tt,tt,tt,tt,tt,tt,tt]) := mkEnd T_ok (C k) _ c5 z5 (.cond (.seq .auto (.mask mr .auto)) (.seq .auto (.piece (Q6 k).h))) ⟨⟨tr, tr⟩, tr, (Q6 k).ok⟩ (fun x S K => q5 k (fun o S => K .nrm (Qm z5 o S)) (fun o S => K .ret (Qm mr o S)) x S) (fun x S K => by kernel_rfl)
def q4 (k : Nat) (Jnrm : Kt R (U1)) (Jret : Kt R (BA × Bool × U1)) (x : (BA × Bool × U1)) (S : LL) : Option R :=
  ifB x.2.1 (Jret ((bs [112, 119]), true, ()) S) (q5 k (fun o3 S => Jnrm (()) S) (fun o4 S => Jret (o4.1, o4.2.1, ()) S) (x.1, (strEq x.1 (bs [116, 101, 108, 108])), ()) S)
def Q4 (k : Nat) : Pc PG R (sub (cd Tryz.f127) [tt,ff,tt,ff,tt,tt,tt,tt,tt,tt,tt,tt,tt,tt,tt]) := mkEnd T_ok (C k) _ c4 z4 (.cond (.seq .auto (.mask mr .auto)) (.seq .auto (.piece (Q5 k).h))) ⟨⟨tr, tr⟩, tr, (Q5 k).ok⟩ (fun x S K => q4 k (fun o S => K .nrm (Qm z4 o S)) (fun o S => K .ret (Qm mr o S)) x S) (fun x S K => by kernel_rfl)
def q3 (k : Nat) (Jnrm : Kt R (U1)) (Jret : Kt R (BA × Bool × U1)) (x : (BA × Bool × U1)) (S : LL) : Option R :=
  ifB x.2.1 (Jret ((bs [112, 112, 112, 43]), true, ()) S) (q4 k (fun o5 S => Jnrm (()) S) (fun o6 S => Jret (o6.1, o6.2.1, ()) S) (x.1, (strEq x.1 (bs [118, 97, 114])), ()) S)
def Q3 (k : Nat) : Pc PG R (sub (cd Tryz.f127) [tt,ff,tt,ff,tt,tt,tt,tt,tt,tt,tt,tt,tt]) := mkEnd T_ok (C k) _ c3 z3 (.cond (.seq .auto (.mask mr .auto)) (.seq .auto (.piece (Q4 k).h))) ⟨⟨tr, tr⟩, tr, (Q4 k).ok⟩ (fun x S K => q3 k (fun o S => K .nrm (Qm z3 o S)) (fun o S => K .ret (Qm mr o S)) x S) (fun x S K => by kernel_rfl)
def q2 (k : Nat) (Jnrm : Kt R (U1)) (Jret : Kt R (BA × Bool × U1)) (x : (BA × Bool × U1)) (S : LL) : Option R :=
  ifB x.2.1 (Jret ((bs [112, 119, 119, 112]), true, ()) S) (q3 k (fun o7 S => Jnrm (()) S) (fun o8 S => Jret (o8.1, o8.2.1, ()) S) (x.1, (strEq x.1 (bs [112, 105, 99, 107])), ()) S)
def Q2 (k : Nat) : Pc PG R (sub (cd Tryz.f127) [tt,ff,tt,ff,tt,tt,tt,tt,tt,tt,tt]) := mkEnd T_ok (C k) _ c2 z2 (.cond (.seq .auto (.mask mr .auto)) (.seq .auto (.piece (Q3 k).h))) ⟨⟨tr, tr⟩, tr, (Q3 k).ok⟩ (fun x S K => q2 k (fun o S => K .nrm (Qm z2 o S)) (fun o S => K .ret (Qm mr o S)) x S) (fun x S K => by kernel_rfl)
def q1 (k : Nat) (Jnrm : Kt R (U1)) (Jret : Kt R (BA × Bool × U1)) (x : (BA × Bool × U1)) (S : LL) : Option R :=
  ifB x.2.1 (Jret ((bs [112, 110, 112]), true, ()) S) (q2 k (fun o9 S => Jnrm (()) S) (fun o10 S => Jret (o10.1, o10.2.1, ()) S) (x.1, (strEq x.1 (bs [99, 104, 97, 110, 103, 101])), ()) S)
def Q1 (k : Nat) : Pc PG R (sub (cd Tryz.f127) [tt,ff,tt,ff,tt,tt,tt,tt,tt]) := mkEnd T_ok (C k) _ c1 z1 (.cond (.seq .auto (.mask mr .auto)) (.seq .auto (.piece (Q2 k).h))) ⟨⟨tr, tr⟩, tr, (Q2 k).ok⟩ (fun x S K => q1 k (fun o S => K .nrm (Qm z1 o S)) (fun o S => K .ret (Qm mr o S)) x S) (fun x S K => by kernel_rfl)
def q0 (k : Nat) (Jnrm : Kt R (U1)) (Jret : Kt R (BA × Bool × U1)) (x : (BA × Bool × U1)) (S : LL) : Option R :=
  ifB x.2.1 (Jret ((bs [112, 112]), true, ()) S) (q1 k (fun o11 S => Jnrm (()) S) (fun o12 S => Jret (o12.1, o12.2.1, ()) S) (x.1, (strEq x.1 (bs [102, 105, 114, 115, 116])), ()) S)
def Q0 (k : Nat) : Pc PG R (sub (cd Tryz.f127) [tt,ff,tt,ff,tt,tt,tt]) := mkEnd T_ok (C k) _ c0 z0 (.cond (.seq .auto (.mask mr .auto)) (.seq .auto (.piece (Q1 k).h))) ⟨⟨tr, tr⟩, tr, (Q1 k).ok⟩ (fun x S K => q0 k (fun o S => K .nrm (Qm z0 o S)) (fun o S => K .ret (Qm mr o S)) x S) (fun x S K => by kernel_rfl)
def fn (k : Nat) (x : (BA × U1)) (S : LL) (K : Kt R (BA × Bool × U1)) : Option R :=
  ifB (strEq x.1 (bs [106, 111, 105, 110])) (K ((bs [112, 112, 43]), true, ()) S) (ifB (strEq x.1 (bs [115, 111, 114, 116])) (q0 k (fun o13 S => K ((bs []), false, ()) S) (fun o14 S => K (o14.1, o14.2.1, ()) S) (x.1, (strEq x.1 (bs [115, 111, 114, 116])), ()) S) (ifB (strEq x.1 (bs [99, 111, 117, 110, 116])) (q0 k (fun o15 S => K ((bs []), false, ()) S) (fun o16 S => K (o16.1, o16.2.1, ()) S) (x.1, (strEq x.1 (bs [99, 111, 117, 110, 116])), ()) S) (ifB (strEq x.1 (bs [101, 120, 112, 97, 110, 100])) (q0 k (fun o17 S => K ((bs []), false, ()) S) (fun o18 S => K (o18.1, o18.2.1, ()) S) (x.1, (strEq x.1 (bs [101, 120, 112, 97, 110, 100])), ()) S) (ifB (strEq x.1 (bs [109, 97, 107, 101])) (q0 k (fun o19 S => K ((bs []), false, ()) S) (fun o20 S => K (o20.1, o20.2.1, ()) S) (x.1, (strEq x.1 (bs [109, 97, 107, 101])), ()) S) (ifB (strEq x.1 (bs [100, 105, 103, 101, 115, 116])) (q0 k (fun o21 S => K ((bs []), false, ()) S) (fun o22 S => K (o22.1, o22.2.1, ()) S) (x.1, (strEq x.1 (bs [100, 105, 103, 101, 115, 116])), ()) S) (ifB (strEq x.1 (bs [108, 105, 115, 116])) (q0 k (fun o23 S => K ((bs []), false, ()) S) (fun o24 S => K (o24.1, o24.2.1, ()) S) (x.1, (strEq x.1 (bs [108, 105, 115, 116])), ()) S) (q0 k (fun o25 S => K ((bs []), false, ()) S) (fun o26 S => K (o26.1, o26.2.1, ()) S) (x.1, (strEq x.1 (bs [115, 97, 109, 101])), ()) S)))))))
def en (k : Nat) : Ent PG R := mkFn T_ok Tryz.func127 ps rs (C k) (.seq .auto (.seq (.seq .auto (.block (.seq .auto (.cond (.seq .auto (.mask mr .auto)) (.seq (.seq .auto (.cond .auto (.seq .auto (.cond .auto (.seq .auto (.cond .auto (.seq .auto (.cond .auto (.seq .auto (.cond .auto (.seq .auto (.cond .auto .auto)))))))))))) (.piece (Q0 k).h)))))) (.seq .auto (.mask mr .auto)))) ⟨tr, ⟨tr, tr, ⟨tr, tr⟩, ⟨tr, tr, tr, tr, tr, tr, tr, tr, tr, tr, tr, tr, tr⟩, (Q0 k).ok⟩, tr, tr⟩ (fn k) (by kernel_rfl) (by kernel_rfl) (fun x S K => by kernel_rfl)
end G.smithyardref5_form
/-! ### 204: smithyard/smithyardref5.numbered -/
namespace G.smithyardref5_numbered
abbrev c0 : Mk := sS (nX (nX (nX (n6 []))))
abbrev c1 : Mk := n6 (sI (nX (nX (nX []))))
abbrev mr : Mk := n4 (sI (sB (nX (nX (nX (n1 []))))))
abbrev ps : Mk := sS (sI [])
abbrev rs : Mk := sI (sB [])
def C (k : Nat) : List (Ent PG R) := [smithyardref5_bytesIn.en k, ⟨214, H.Atoi.h k, H.Atoi.ok k⟩]
def q1 (k : Nat) (Jret : Kt R (Int × Bool × U1)) (x : (Int × U1)) (S : LL) : Option R :=
  Jret (x.1, true, ()) S
def Q1 (k : Nat) : Pc PG R (sub (cd Tryz.f204) [tt,tt,tt]) := mkCut T_ok (C k) _ c1 (.seq .auto (.mask mr .auto)) ⟨tr, tr⟩ (fun x S K => q1 k (fun o S => K .ret (Qm mr o S)) x S) (fun x S K => by kernel_rfl)
def q0 (k : Nat) (Jret : Kt R (Int × Bool × U1)) (x : (BA × U1)) (S : LL) : Option R :=
  H.Atoi.fn k (x.1, ()) S fun r3 S => q1 k (fun o4 S => Jret (o4.1, o4.2.1, ()) S) (r3.1, ()) S
def Q0 (k : Nat) : Pc PG R (sub (cd Tryz.f204) [tt,tt]) := mkCut T_ok (C k) _ c0 (.seq (.own [(2, 1)]) (.piece (Q1 k).h)) ⟨tr, (Q1 k).ok⟩ (fun x S K => q0 k (fun o S => K .ret (Qm mr o S)) x S) (fun x S K => by kernel_rfl)
def fn (k : Nat) (x : (BA × Int × U1)) (S : LL) (K : Kt R (Int × Bool × U1)) : Option R :=
  ifB (strEq x.1 (bs [])) (K ((0 : Int), false, ()) S) (ifB (decide ((x.1.size : Int) > x.2.1)) (K ((0 : Int), false, ()) S) (ifB (decide ((x.1.size : Int) > (1 : Int))) (idxStr x.1 (0 : Int) fun c1 => ifB (c1 == (48 : Int)) (K ((0 : Int), false, ()) S) (smithyardref5_bytesIn.fn k (x.1, (48 : Int), (57 : Int), ()) S fun r2 S => ifB (!r2.1) (K ((0 : Int), false, ()) S) (q0 k (fun o5 S => K (o5.1, o5.2.1, ()) S) (x.1, ()) S))) (smithyardref5_bytesIn.fn k (x.1, (48 : Int), (57 : Int), ()) S fun r6 S => ifB (!r6.1) (K ((0 : Int), false, ()) S) (q0 k (fun o7 S => K (o7.1, o7.2.1, ()) S) (x.1, ()) S))))
def en (k : Nat) : Ent PG R := mkFn T_ok Tryz.func204 ps rs (C k) (.seq .auto (.seq (.seq .auto (.cond (.seq .auto (.mask mr .auto)) .auto)) (.piece (Q0 k).h))) ⟨tr, ⟨tr, ⟨tr, tr⟩, tr⟩, (Q0 k).ok⟩ (fn k) (by kernel_rfl) (by kernel_rfl) (fun x S K => by kernel_rfl)
end G.smithyardref5_numbered
/-! ### 179: smithyard/smithyardref5.fits -/
namespace G.smithyardref5_fits
abbrev mr : Mk := n4 (sB (nX (n5 [])))
abbrev ps : Mk := sh (.lf (.int .u8)) (sS [])
abbrev rs : Mk := sB []
def C (k : Nat) : List (Ent PG R) := [smithyardref1_IsPath.en k, smithyardref5_numbered.en k]
def fn (k : Nat) (x : (Int × BA × U1)) (S : LL) (K : Kt R (Bool × U1)) : Option R :=
  ifB (x.1 == (112 : Int)) (smithyardref1_IsPath.fn k (x.2.1, ()) S fun r1 S => K (r1.1, ()) S) (ifB (x.1 == (110 : Int)) (smithyardref5_numbered.fn k (x.2.1, (6 : Int), ()) S fun r2 S => K (r2.2.1, ()) S) (K (true, ()) S))
def en (k : Nat) : Ent PG R := mkFn T_ok Tryz.func179 ps rs (C k) (.seq .auto (.seq (.seq .auto (.block (.seq .auto (.cond (.seq .auto (.mask mr .auto)) (.seq .auto (.cond (.seq (.own [(2, 1)]) (.seq .auto (.mask mr .auto))) .auto)))))) (.seq .auto (.mask mr .auto)))) ⟨tr, ⟨tr, tr, ⟨tr, tr⟩, tr, ⟨tr, tr, tr⟩, tr⟩, tr, tr⟩ (fn k) (by kernel_rfl) (by kernel_rfl) (fun x S K => by kernel_rfl)
end G.smithyardref5_fits
/-! ### 128: smithyard/smithyardref5.formed -/
namespace G.smithyardref5_formed
abbrev c0 : Mk := sL 1 (n2 (sS (n2 (sL 1 (nX (nX (nX (nX (nX (nX []))))))))))
abbrev c1 : Mk := sL 1 (n2 (sS (n2 (sL 1 (sI (nX (nX (nX (nX (nX (n9 [])))))))))))
abbrev c2 : Mk := sL 1 (n2 (sS (n2 (sL 1 (sI (nX (nX (nX (nX (nX (n9 [])))))))))))
abbrev c3 : Mk := sL 1 (n2 (sS (n2 (sL 1 (sI (nX (nX (nX (nX (nX (n9 [])))))))))))
abbrev c4 : Mk := sL 1 (n5 (sL 1 (nX (nX (nX (nX (nX (nX []))))))))
abbrev z1 : Mk := sL 1 (n5 (sL 1 (nX (nX (nX (nX (nX (nX []))))))))
abbrev z2 : Mk := sL 1 (n2 (sS (n2 (sL 1 (sI (nX (nX (nX (nX (nX (n9 [])))))))))))
abbrev z3 : Mk := sL 1 (n2 (sS (n2 (sL 1 (sI (nX (nX (nX (nX (nX (n9 [])))))))))))
abbrev e0 : Mk := sL 1 (n5 (sL 1 (nX (nX (nX (nX (nX (nX []))))))))
abbrev m0 : Mk := sL 1 (n2 (sS (n2 (sL 1 (sI (nX (nX (nX (nX (nX (n9 [])))))))))))
abbrev mr : Mk := n2 (sB (nX (nX (nX (nX (nX (nX (n4 []))))))))
abbrev ps : Mk := sL 1 []
abbrev rs : Mk := sB []
def C (k : Nat) : List (Ent PG R) := [smithyardref5_form.en k, strings_CutSuffix.en k, smithyardref5_fits.en k]
def q3 (k : Nat) (Jnrm : Kt R (LL × BA × LL × Int × U1))  (x : (LL × BA × LL × Int × U1)) (S : LL) : Option R :=
  Jnrm (x.1, x.2.1, x.2.2.1, (IntKind.wrap .i64 (x.2.2.2.1 + (1 : Int))), ()) S
def Q3 (k : Nat) : Pc PG R (sub (cd Tryz.f128) [tt,tt,tt,tt,tt,ff,tt,ff,ff,tt,tt]) := mkEnd T_ok (C k) _ c3 z3 (.auto) tr (fun x S K => q3 k (fun o S => K .nrm (Qm z3 o S))  x S) (fun x S K => by kernel_rfl)
def q2 (k : Nat) (Jnrm : Kt R (LL × BA × LL × Int × U1)) (Jret : Kt R (Bool × U1)) (x : (LL × BA × LL × Int × U1)) (S : LL) : Option R :=
  idxStr x.2.1 (minI x.2.2.2.1 (IntKind.wrap .i64 ((x.2.1.size : Int) - (1 : Int)))) fun c6 => idxL x.2.2.1 x.2.2.2.1 fun v7 => asStr (leaf v7 0) fun s8 => smithyardref5_fits.fn k (c6, s8, ()) S fun r9 S => ifB (!r9.1) (Jret (false, ()) S) (q3 k (fun o10 S => Jnrm (o10.1, o10.2.1, o10.2.2.1, o10.2.2.2.1, ()) S) (x.1, x.2.1, x.2.2.1, x.2.2.2.1, ()) S)
def Q2 (k : Nat) : Pc PG R (sub (cd Tryz.f128) [tt,tt,tt,tt,tt,ff,tt,ff,ff,tt]) := mkEnd T_ok (C k) _ c2 z2 (.seq (.block (.seq (.drawn [] [0, 1, 2, 3, 4, 5, 6, 7, 8, 9, 10, 11, 12]) (.cond (.seq .auto (.mask mr .auto)) .auto))) (.piece (Q3 k).h)) ⟨⟨(drawn_an (by kernel_rfl)), ⟨tr, tr⟩, tr⟩, (Q3 k).ok⟩ (fun x S K => q2 k (fun o S => K .nrm (Qm z2 o S)) (fun o S => K .ret (Qm mr o S)) x S) (fun x S K => by kernel_rfl)
def b0 (k : Nat) (J0 : Kt R (LL × LL × U1)) (Jret : Kt R (Bool × U1)) (rec : Kt R (LL × BA × LL × Int × U1)) (x : (LL × BA × LL × Int × U1)) (S : LL) : Option R :=
  ifB (decide (x.2.2.2.1 < (x.2.2.1.length : Int))) (q2 k (fun o11 S => rec (o11.1, o11.2.1, o11.2.2.1, o11.2.2.2.1, ()) S) (fun o12 S => Jret (o12.1, ()) S) (x.1, x.2.1, x.2.2.1, x.2.2.2.1, ()) S) (J0 (x.1, x.2.2.1, ()) S)
def L0 (k : Nat) : Pc PG R (.loop (sub (cd Tryz.f128) [tt,tt,tt,tt,tt,ff,tt,ff,ff])) := mkLoop T_ok (C k) _ m0 k (.seq (.seq .auto (.cond .auto (.mask e0 .auto))) (.piece (Q2 k).h)) ⟨⟨tr, tr, tr⟩, (Q2 k).ok⟩ (fun K => b0 k (fun o S => K (.ext 0) (Qm e0 o S)) (fun o S => K .ret (Qm mr o S))) (fun K rec x S => by kernel_rfl)
def q1 (k : Nat) (Jnrm : Kt R (LL × LL × U1)) (Jret : Kt R (Bool × U1)) (x : (LL × BA × LL × Int × U1)) (S : LL) : Option R :=
  rounds (b0 k (fun o13 S => Jnrm (o13.1, o13.2.1, ()) S) (fun o14 S => Jret (o14.1, ()) S)) k (x.1, x.2.1, x.2.2.1, x.2.2.2.1, ()) S
def Q1 (k : Nat) : Pc PG R (sub (cd Tryz.f128) [tt,tt,tt,tt,tt,ff,tt]) := mkEnd T_ok (C k) _ c1 z1 (.block (.piece (L0 k).h)) (L0 k).ok (fun x S K => q1 k (fun o S => K .nrm (Qm z1 o S)) (fun o S => K .ret (Qm mr o S)) x S) (fun x S K => by kernel_rfl)
def q4 (k : Nat) (Jret : Kt R (Bool × U1)) (x : (LL × LL × U1)) (S : LL) : Option R :=
  idxL x.1 (0 : Int) fun v16 => asStr (leaf v16 0) fun s17 => ifB (!(strEq s17 (bs [102, 97, 105, 108]))) (Jret (true, ()) S) (idxL x.2.1 (0 : Int) fun v18 => asStr (leaf v18 0) fun s19 => Jret ((!(strEq s19 (bs [48]))), ()) S)
def Q4 (k : Nat) : Pc PG R (sub (cd Tryz.f128) [tt,tt,tt,tt,tt,tt]) := mkCut T_ok (C k) _ c4 (.seq .auto (.mask mr .auto)) ⟨tr, tr⟩ (fun x S K => q4 k (fun o S => K .ret (Qm mr o S)) x S) (fun x S K => by kernel_rfl)
def q0 (k : Nat) (Jret : Kt R (Bool × U1)) (x : (LL × BA × LL × U1)) (S : LL) : Option R :=
  q1 k (fun o15 S => q4 k (fun o20 S => Jret (o20.1, ()) S) (o15.1, o15.2.1, ()) S) (fun o21 S => Jret (o21.1, ()) S) (x.1, x.2.1, x.2.2.1, (0 : Int), ()) S
def Q0 (k : Nat) : Pc PG R (sub (cd Tryz.f128) [tt,tt,tt,tt,tt]) := mkCut T_ok (C k) _ c0 (.seq (.seq .auto (.piece (Q1 k).h)) (.piece (Q4 k).h)) ⟨⟨tr, (Q1 k).ok⟩, (Q4 k).ok⟩ (fun x S K => q0 k (fun o S => K .ret (Qm mr o S)) x S) (fun x S K => by kernel_rfl)
def fn (k : Nat) (x : (LL × U1)) (S : LL) (K : Kt R (Bool × U1)) : Option R :=
  idxL x.1 (0 : Int) fun v1 => asStr (leaf v1 0) fun s2 => smithyardref5_form.fn k (s2, ()) S fun r3 S => strings_CutSuffix.fn k (r3.1, (bs [43]), ()) S fun r4 S => slL x.1 (1 : Int) (x.1.length : Int) fun l5 => ifB (decide ((l5.length : Int) < (r4.1.size : Int))) (K (false, ()) S) (ifB (decide ((l5.length : Int) > (r4.1.size : Int))) (ifB (!r4.2.1) (K (false, ()) S) (q0 k (fun o22 S => K (o22.1, ()) S) (x.1, r4.1, l5, ()) S)) (q0 k (fun o23 S => K (o23.1, ()) S) (x.1, r4.1, l5, ()) S))
def en (k : Nat) : Ent PG R := mkFn T_ok Tryz.func128 ps rs (C k) (.seq .auto (.seq (.own [(4, 1)]) (.seq (.own [(2, 1)]) (.seq .auto (.seq (.seq .auto (.cond (.seq .auto (.mask mr .auto)) .auto)) (.piece (Q0 k).h)))))) ⟨tr, tr, tr, tr, ⟨tr, ⟨tr, tr⟩, tr⟩, (Q0 k).ok⟩ (fn k) (by kernel_rfl) (by kernel_rfl) (fun x S K => by kernel_rfl)
end G.smithyardref5_formed
/-! ### 94: smithyard/smithyardref5.checkCommand -/
namespace G.smithyardref5_checkCommand
abbrev e0 : Mk := sL 1 (nX (nX (nX (nX (n4 [])))))
abbrev m0 : Mk := sL 1 (n2 (sI (nX (nX (nX (nX (n1 [])))))))
abbrev mr : Mk := n2 (sI (nX (nX (nX (nX (n2 []))))))
abbrev ps : Mk := sL 1 []
abbrev rs : Mk := sI []
def C (k : Nat) : List (Ent PG R) := [smithyardref5_within.en k, smithyardref5_bytesIn.en k, smithyardref5_form.en k, smithyardref5_formed.en k]
def b0 (k : Nat) (J0 : Kt R (LL × U1)) (Jret : Kt R (Int × U1)) (rec : Kt R (LL × Int × U1)) (x : (LL × Int × U1)) (S : LL) : Option R :=
  ifB (decide (x.2.1 < (x.1.length : Int))) (idxL x.1 x.2.1 fun v1 => asStr (leaf v1 0) fun s2 => smithyardref5_within.fn k ((s2.size : Int), (1 : Int), (300 : Int), ()) S fun r3 S => ifB (!r3.1) (Jret ((3 : Int), ()) S) (idxL x.1 x.2.1 fun v4 => asStr (leaf v4 0) fun s5 => smithyardref5_bytesIn.fn k (s5, (33 : Int), (126 : Int), ()) S fun r6 S => ifB (!r6.1) (Jret ((3 : Int), ()) S) (rec (x.1, (IntKind.wrap .i64 (x.2.1 + (1 : Int))), ()) S))) (J0 (x.1, ()) S)
def L0 (k : Nat) : Pc PG R (.loop (sub (cd Tryz.f94) [tt,tt,tt,ff,tt,ff,ff])) := mkLoop T_ok (C k) _ m0 k (.seq (.seq .auto (.cond .auto (.mask e0 .auto))) (.seq (.block (.seq .auto (.cond (.seq .auto (.mask mr .auto)) .auto))) .auto)) ⟨⟨tr, tr, tr⟩, ⟨tr, ⟨tr, tr⟩, tr⟩, tr⟩ (fun K => b0 k (fun o S => K (.ext 0) (Qm e0 o S)) (fun o S => K .ret (Qm mr o S))) (fun K rec x S => by kernel_rfl)
def fn (k : Nat) (x : (LL × U1)) (S : LL) (K : Kt R (Int × U1)) : Option R :=
  ifB ((x.1.length : Int) == (0 : Int)) (K ((9 : Int), ()) S) (ifB (decide ((x.1.length : Int) > (50 : Int))) (K ((2 : Int), ()) S) (rounds (b0 k (fun o7 S => idxL o7.1 (0 : Int) fun v8 => asStr (leaf v8 0) fun s9 => smithyardref5_form.fn k (s9, ()) S fun r10 S => ifB (!r10.2.1) (K ((4 : Int), ()) S) (smithyardref5_formed.fn k (o7.1, ()) S fun r11 S => ifB (!r11.1) (K ((3 : Int), ()) S) (K ((0 : Int), ()) S))) (fun o12 S => K (o12.1, ()) S)) k (x.1, (0 : Int), ()) S))
def en (k : Nat) : Ent PG R := mkFn T_ok Tryz.func94 ps rs (C k) (.seq .auto (.seq (.seq .auto (.cond (.seq .auto (.mask mr .auto)) .auto)) (.seq (.seq .auto (.cond (.seq .auto (.mask mr .auto)) .auto)) (.seq (.seq .auto (.block (.piece (L0 k).h))) (.seq (.seq (.own [(4, 1)]) (.seq .auto (.cond (.seq .auto (.mask mr .auto)) .auto))) (.seq (.seq .auto (.cond (.seq .auto (.mask mr .auto)) .auto)) (.seq .auto (.mask mr .auto)))))))) ⟨tr, ⟨tr, ⟨tr, tr⟩, tr⟩, ⟨tr, ⟨tr, tr⟩, tr⟩, ⟨tr, (L0 k).ok⟩, ⟨tr, tr, ⟨tr, tr⟩, tr⟩, ⟨tr, ⟨tr, tr⟩, tr⟩, tr, tr⟩ (fn k) (by kernel_rfl) (by kernel_rfl) (fun x S K => by kernel_rfl)
end G.smithyardref5_checkCommand
/-! ### 180: smithyard/smithyardref4.within -/
namespace G.smithyardref4_within
abbrev mr : Mk := n6 (sB (n8 []))
abbrev ps : Mk := sI (sI (sI []))
abbrev rs : Mk := sB []
def C (k : Nat) : List (Ent PG R) := []
def fn (k : Nat) (x : (Int × Int × Int × U1)) (S : LL) (K : Kt R (Bool × U1)) : Option R :=
  ifB (decide (x.1 ≥ x.2.1)) (K ((decide (x.1 ≤ x.2.2.1)), ()) S) (K (false, ()) S)
def en (k : Nat) : Ent PG R := mkFn T_ok Tryz.func180 ps rs (C k) (.seq .auto (.seq .auto (.mask mr .auto))) ⟨tr, tr, tr⟩ (fn k) (by kernel_rfl) (by kernel_rfl) (fun x S K => by kernel_rfl)
end G.smithyardref4_within
/-! ### 129: smithyard/smithyardref4.IsName -/
namespace G.smithyardref4_IsName
abbrev c0 : Mk := sS (n2 (sI (nX (nX (nX (nX (n9 [])))))))
abbrev c1 : Mk := sS (n2 (sI (sh (.lf (.int .u8)) (sB (nX (nX (nX (nX (n7 [])))))))))
abbrev c2 : Mk := sS (nX (nX (nX (nX (nX (n2 []))))))
abbrev z0 : Mk := sS (n2 (sI (nX (nX (nX (nX (n9 [])))))))
abbrev z1 : Mk := sS (n2 (sI (nX (nX (nX (nX (n9 [])))))))
abbrev e0 : Mk := sS (nX (nX (nX (nX (nX (n2 []))))))
abbrev m0 : Mk := sS (n2 (sI (nX (nX (nX (nX (n9 [])))))))
abbrev mr : Mk := n2 (sB (nX (nX (nX (nX (nX []))))))
abbrev ps : Mk := sS []
abbrev rs : Mk := sB []
def C (k : Nat) : List (Ent PG R) := [smithyardref4_within.en k]
def q1 (k : Nat) (Jnrm : Kt R (BA × Int × U1)) (Jret : Kt R (Bool × U1)) (x : (BA × Int × Int × Bool × U1)) (S : LL) : Option R :=
  ifB (!x.2.2.2.1) (ifB (x.2.1 == (0 : Int)) (Jret (false, ()) S) (ifB (x.2.2.1 != (95 : Int)) (ifB (decide (x.2.2.1 ≥ (48 : Int))) (ifB (!(decide (x.2.2.1 ≤ (57 : Int)))) (Jret (false, ()) S) (Jnrm (x.1, x.2.1, ()) S)) (ifB (!false) (Jret (false, ()) S) (Jnrm (x.1, x.2.1, ()) S))) (Jnrm (x.1, x.2.1, ()) S))) (Jnrm (x.1, x.2.1, ()) S)
def Q1 (k : Nat) : Pc PG R (sub (cd Tryz.f129) [tt,ff,tt,ff,ff,tt,ff,ff,tt,tt]) := mkEnd T_ok (C k) _ c1 z1 (.seq .auto (.cond (.seq .auto (.mask mr .auto)) .auto)) ⟨tr, ⟨tr, tr⟩, tr⟩ (fun x S K => q1 k (fun o S => K .nrm (Qm z1 o S)) (fun o S => K .ret (Qm mr o S)) x S) (fun x S K => by kernel_rfl)
def q0 (k : Nat) (Jnrm : Kt R (BA × Int × U1))  (x : (BA × Int × U1)) (S : LL) : Option R :=
  Jnrm (x.1, (IntKind.wrap .i64 (x.2.1 + (1 : Int))), ()) S
def Q0 (k : Nat) : Pc PG R (sub (cd Tryz.f129) [tt,ff,tt,ff,ff,tt,tt]) := mkEnd T_ok (C k) _ c0 z0 (.auto) tr (fun x S K => q0 k (fun o S => K .nrm (Qm z0 o S))  x S) (fun x S K => by kernel_rfl)
def b0 (k : Nat) (J0 : Kt R (BA × U1)) (Jret : Kt R (Bool × U1)) (rec : Kt R (BA × Int × U1)) (x : (BA × Int × U1)) (S : LL) : Option R :=
  ifB (decide (x.2.1 < (x.1.size : Int))) (idxStr x.1 x.2.1 fun c1 => ifB (decide (c1 ≥ (97 : Int))) (q1 k (fun o2 S => q0 k (fun o3 S => rec (o3.1, o3.2.1, ()) S) (o2.1, o2.2.1, ()) S) (fun o4 S => Jret (o4.1, ()) S) (x.1, x.2.1, c1, (decide (c1 ≤ (122 : Int))), ()) S) (q1 k (fun o5 S => q0 k (fun o6 S => rec (o6.1, o6.2.1, ()) S) (o5.1, o5.2.1, ()) S) (fun o7 S => Jret (o7.1, ()) S) (x.1, x.2.1, c1, false, ()) S)) (J0 (x.1, ()) S)
def L0 (k : Nat) : Pc PG R (.loop (sub (cd Tryz.f129) [tt,ff,tt,ff,ff])) := mkLoop T_ok (C k) _ m0 k (.seq (.seq .auto (.cond .auto (.mask e0 .auto))) (.seq (.block (.seq .auto (.seq .auto (.piece (Q1 k).h)))) (.piece (Q0 k).h))) ⟨⟨tr, tr, tr⟩, ⟨tr, tr, (Q1 k).ok⟩, (Q0 k).ok⟩ (fun K => b0 k (fun o S => K (.ext 0) (Qm e0 o S)) (fun o S => K .ret (Qm mr o S))) (fun K rec x S => by kernel_rfl)
def q2 (k : Nat) (Jret : Kt R (Bool × U1)) (x : (BA × U1)) (S : LL) : Option R :=
  smithyardref4_within.fn k ((x.1.size : Int), (1 : Int), (40 : Int), ()) S fun r9 S => Jret (r9.1, ()) S
def Q2 (k : Nat) : Pc PG R (sub (cd Tryz.f129) [tt,tt,tt]) := mkCut T_ok (C k) _ c2 (.seq .auto (.mask mr .auto)) ⟨tr, tr⟩ (fun x S K => q2 k (fun o S => K .ret (Qm mr o S)) x S) (fun x S K => by kernel_rfl)
def fn (k : Nat) (x : (BA × U1)) (S : LL) (K : Kt R (Bool × U1)) : Option R :=
  rounds (b0 k (fun o8 S => ifB (strEq o8.1 (bs [109, 97, 99, 114, 111])) (ifB (strEq o8.1 (bs [109, 97, 99, 114, 111])) (K (false, ()) S) (q2 k (fun o10 S => K (o10.1, ()) S) (o8.1, ()) S)) (ifB (strEq o8.1 (bs [102, 111, 114])) (ifB (strEq o8.1 (bs [102, 111, 114])) (K (false, ()) S) (q2 k (fun o11 S => K (o11.1, ()) S) (o8.1, ()) S)) (ifB (strEq o8.1 (bs [105, 110])) (ifB (strEq o8.1 (bs [105, 110])) (K (false, ()) S) (q2 k (fun o12 S => K (o12.1, ()) S) (o8.1, ()) S)) (ifB (strEq o8.1 (bs [105, 102])) (ifB (strEq o8.1 (bs [105, 102])) (K (false, ()) S) (q2 k (fun o13 S => K (o13.1, ()) S) (o8.1, ()) S)) (ifB (strEq o8.1 (bs [101, 108, 115, 101])) (ifB (strEq o8.1 (bs [101, 108, 115, 101])) (K (false, ()) S) (q2 k (fun o14 S => K (o14.1, ()) S) (o8.1, ()) S)) (ifB (strEq o8.1 (bs [117, 115, 101])) (ifB (strEq o8.1 (bs [117, 115, 101])) (K (false, ()) S) (q2 k (fun o15 S => K (o15.1, ()) S) (o8.1, ()) S)) (ifB (strEq o8.1 (bs [102, 105, 108, 101, 115])) (ifB (strEq o8.1 (bs [102, 105, 108, 101, 115])) (K (false, ()) S) (q2 k (fun o16 S => K (o16.1, ()) S) (o8.1, ()) S)) (ifB (strEq o8.1 (bs [99, 104, 111, 111, 115, 101])) (K (false, ()) S) (q2 k (fun o17 S => K (o17.1, ()) S) (o8.1, ()) S))))))))) (fun o18 S => K (o18.1, ()) S)) k (x.1, (0 : Int), ()) S
def en (k : Nat) : Ent PG R := mkFn T_ok Tryz.func129 ps rs (C k) (.seq .auto (.seq (.seq .auto (.block (.piece (L0 k).h))) (.seq (.seq .auto (.block (.seq (.seq .auto (.cond .auto (.seq .auto (.cond .auto (.seq .auto (.cond .auto (.seq .auto (.cond .auto (.seq .auto (.cond .auto (.seq .auto (.cond .auto (.seq .auto (.cond .auto .auto)))))))))))))) (.cond (.seq .auto (.mask mr .auto)) .auto)))) (.piece (Q2 k).h)))) ⟨tr, ⟨tr, (L0 k).ok⟩, ⟨tr, ⟨tr, tr, tr, tr, tr, tr, tr, tr, tr, tr, tr, tr, tr, tr, tr⟩, ⟨tr, tr⟩, tr⟩, (Q2 k).ok⟩ (fn k) (by kernel_rfl) (by kernel_rfl) (fun x S K => by kernel_rfl)
end G.smithyardref4_IsName
/-! ### 95: smithyard/smithyardref5.checkVars -/
namespace G.smithyardref5_checkVars
abbrev c0 : Mk := sL 2 (n2 (sI (nX (nX (nX (nX (n8 [])))))))
abbrev c1 : Mk := sL 2 (n2 (sI (nX (nX (nX (nX (n8 [])))))))
abbrev z0 : Mk := sL 2 (n2 (sI (nX (nX (nX (nX (n8 [])))))))
abbrev z1 : Mk := sL 2 (n2 (sI (nX (nX (nX (nX (n8 [])))))))
abbrev e0 : Mk := nX (nX (nX (nX (nX (n2 [])))))
abbrev m0 : Mk := sL 2 (n2 (sI (nX (nX (nX (nX (n8 [])))))))
abbrev mr : Mk := n2 (sI (nX (nX (nX (nX (n9 []))))))
abbrev ps : Mk := sL 2 []
abbrev rs : Mk := sI []
def C (k : Nat) : List (Ent PG R) := [smithyardref5_bytesIn.en k, smithyardref4_IsName.en k]
def q0 (k : Nat) (Jnrm : Kt R (LL × Int × U1)) (Jret : Kt R (Int × U1)) (x : (LL × Int × U1)) (S : LL) : Option R :=
  ifB (decide (x.2.1 > (0 : Int))) (idxL x.1 x.2.1 fun v9 => asStr (leaf v9 0) fun s10 => idxL x.1 (IntKind.wrap .i64 (x.2.1 - (1 : Int))) fun v11 => asStr (leaf v11 0) fun s12 => ifB (strLt s10 s12 || strEq s10 s12) (Jret ((8 : Int), ()) S) (Jnrm (x.1, x.2.1, ()) S)) (Jnrm (x.1, x.2.1, ()) S)
def Q0 (k : Nat) : Pc PG R (sub (cd Tryz.f95) [tt,tt,ff,tt,ff,ff,tt,ff,ff,tt,tt]) := mkEnd T_ok (C k) _ c0 z0 (.seq (.drawn [] [0, 1, 2, 3, 4, 5, 6, 7, 8, 9, 10, 11, 12, 13, 14, 15]) (.cond (.seq .auto (.mask mr .auto)) .auto)) ⟨(drawn_an (by kernel_rfl)), ⟨tr, tr⟩, tr⟩ (fun x S K => q0 k (fun o S => K .nrm (Qm z0 o S)) (fun o S => K .ret (Qm mr o S)) x S) (fun x S K => by kernel_rfl)
def q1 (k : Nat) (Jnrm : Kt R (LL × Int × U1))  (x : (LL × Int × U1)) (S : LL) : Option R :=
  Jnrm (x.1, (IntKind.wrap .i64 (x.2.1 + (1 : Int))), ()) S
def Q1 (k : Nat) : Pc PG R (sub (cd Tryz.f95) [tt,tt,ff,tt,ff,ff,tt,tt]) := mkEnd T_ok (C k) _ c1 z1 (.auto) tr (fun x S K => q1 k (fun o S => K .nrm (Qm z1 o S))  x S) (fun x S K => by kernel_rfl)
def b0 (k : Nat) (J0 : Kt R (U1)) (Jret : Kt R (Int × U1)) (rec : Kt R (LL × Int × U1)) (x : (LL × Int × U1)) (S : LL) : Option R :=
  ifB (decide (x.2.1 < (x.1.length : Int))) (idxL x.1 x.2.1 fun v1 => asStr (leaf v1 0) fun s2 => smithyardref4_IsName.fn k (s2, ()) S fun r3 S => ifB (!r3.1) (Jret ((5 : Int), ()) S) (idxL x.1 x.2.1 fun v4 => asStr (leaf v4 1) fun s5 => ifB (decide ((s5.size : Int) > (300 : Int))) (Jret ((3 : Int), ()) S) (idxL x.1 x.2.1 fun v6 => asStr (leaf v6 1) fun s7 => smithyardref5_bytesIn.fn k (s7, (32 : Int), (126 : Int), ()) S fun r8 S => ifB (!r8.1) (Jret ((3 : Int), ()) S) (q0 k (fun o13 S => q1 k (fun o14 S => rec (o14.1, o14.2.1, ()) S) (o13.1, o13.2.1, ()) S) (fun o15 S => Jret (o15.1, ()) S) (x.1, x.2.1, ()) S)))) (J0 (()) S)
def L0 (k : Nat) : Pc PG R (.loop (sub (cd Tryz.f95) [tt,tt,ff,tt,ff,ff])) := mkLoop T_ok (C k) _ m0 k (.seq (.seq .auto (.cond .auto (.mask e0 .auto))) (.seq (.block (.seq (.seq .auto (.cond (.seq .auto (.mask mr .auto)) .auto)) (.seq (.seq .auto (.cond (.seq .auto (.mask mr .auto)) .auto)) (.piece (Q0 k).h)))) (.piece (Q1 k).h))) ⟨⟨tr, tr, tr⟩, ⟨⟨tr, ⟨tr, tr⟩, tr⟩, ⟨tr, ⟨tr, tr⟩, tr⟩, (Q0 k).ok⟩, (Q1 k).ok⟩ (fun K => b0 k (fun o S => K (.ext 0) (Qm e0 o S)) (fun o S => K .ret (Qm mr o S))) (fun K rec x S => by kernel_rfl)
def fn (k : Nat) (x : (LL × U1)) (S : LL) (K : Kt R (Int × U1)) : Option R :=
  ifB (decide ((x.1.length : Int) > (30 : Int))) (K ((2 : Int), ()) S) (rounds (b0 k (fun o16 S => K ((0 : Int), ()) S) (fun o17 S => K (o17.1, ()) S)) k (x.1, (0 : Int), ()) S)
def en (k : Nat) : Ent PG R := mkFn T_ok Tryz.func95 ps rs (C k) (.seq .auto (.seq (.seq .auto (.cond (.seq .auto (.mask mr .auto)) .auto)) (.seq (.seq .auto (.block (.piece (L0 k).h))) (.seq .auto (.mask mr .auto))))) ⟨tr, ⟨tr, ⟨tr, tr⟩, tr⟩, ⟨tr, (L0 k).ok⟩, tr, tr⟩ (fn k) (by kernel_rfl) (by kernel_rfl) (fun x S K => by kernel_rfl)
end G.smithyardref5_checkVars
/-! ### 61: smithyard/smithyardref1.Lies -/
namespace G.smithyardref1_Lies
abbrev mr : Mk := n4 (sB (n4 []))
abbrev ps : Mk := sS (sS [])
abbrev rs : Mk := sB []
def C (k : Nat) : List (Ent PG R) := [strings_HasPrefix.en k]
def fn (k : Nat) (x : (BA × BA × U1)) (S : LL) (K : Kt R (Bool × U1)) : Option R :=
  catStr x.2.1 (bs [47]) fun s1 => strings_HasPrefix.fn k (x.1, s1, ()) S fun r2 S => K (r2.1, ()) S
def en (k : Nat) : Ent PG R := mkFn T_ok Tryz.func61 ps rs (C k) (.seq .auto (.seq .auto (.mask mr .auto))) ⟨tr, tr, tr⟩ (fn k) (by kernel_rfl) (by kernel_rfl) (fun x S K => by kernel_rfl)
end G.smithyardref1_Lies
/-! ### 96: smithyard/smithyardref5.checkOutputs -/
namespace G.smithyardref5_checkOutputs
abbrev c0 : Mk := sL 1 (n2 (sI (nX (nX (nX (nX (nX (n5 []))))))))
abbrev z0 : Mk := sL 1 (n2 (sI (nX (nX (nX (nX (nX (n5 []))))))))
abbrev e0 : Mk := sL 1 (nX (nX (nX (nX (nX (n8 []))))))
abbrev e2 : Mk := nX (nX (nX (nX (nX (n9 [])))))
abbrev e4 : Mk := sL 1 (n3 (sI (nX (nX (nX (nX (nX (n4 []))))))))
abbrev m0 : Mk := sL 1 (n2 (sI (nX (nX (nX (nX (nX (n5 []))))))))
abbrev m1 : Mk := sL 1 (n3 (sI (nX (nX (nX (nX (nX (n4 []))))))))
abbrev m2 : Mk := sL 1 (n3 (sI (sI (nX (nX (nX (nX (nX (n3 [])))))))))
abbrev mr : Mk := n2 (sI (nX (nX (nX (nX (nX (n6 [])))))))
abbrev ps : Mk := sL 1 []
abbrev rs : Mk := sI []
def C (k : Nat) : List (Ent PG R) := [smithyardref1_IsPath.en k, smithyardref1_Lies.en k]
def b2 (k : Nat) (J4 : Kt R (LL × Int × U1)) (Jret : Kt R (Int × U1)) (rec : Kt R (LL × Int × Int × U1)) (x : (LL × Int × Int × U1)) (S : LL) : Option R :=
  ifB (decide (x.2.2.1 < (x.1.length : Int))) (idxL x.1 x.2.1 fun v11 => asStr (leaf v11 0) fun s12 => idxL x.1 x.2.2.1 fun v13 => asStr (leaf v13 0) fun s14 => smithyardref1_Lies.fn k (s12, s14, ()) S fun r15 S => ifB r15.1 (Jret ((12 : Int), ()) S) (rec (x.1, x.2.1, (IntKind.wrap .i64 (x.2.2.1 + (1 : Int))), ()) S)) (J4 (x.1, x.2.1, ()) S)
def L2 (k : Nat) : Pc PG R (.loop (sub (cd Tryz.f96) [tt,tt,tt,tt,ff,tt,ff,ff,tt,ff,ff,tt,ff,ff])) := mkLoop T_ok (C k) _ m2 k (.seq (.seq .auto (.cond .auto (.mask e4 .auto))) (.seq (.block (.seq (.drawn [] [0, 1, 2, 3, 4, 5, 6, 7, 8]) (.cond (.seq .auto (.mask mr .auto)) .auto))) .auto)) ⟨⟨tr, tr, tr⟩, ⟨(drawn_an (by kernel_rfl)), ⟨tr, tr⟩, tr⟩, tr⟩ (fun K => b2 k (fun o S => K (.ext 4) (Qm e4 o S)) (fun o S => K .ret (Qm mr o S))) (fun K rec x S => by kernel_rfl)
def q0 (k : Nat) (Jnrm : Kt R (LL × Int × U1))  (x : (LL × Int × U1)) (S : LL) : Option R :=
  Jnrm (x.1, (IntKind.wrap .i64 (x.2.1 + (1 : Int))), ()) S
def Q0 (k : Nat) : Pc PG R (sub (cd Tryz.f96) [tt,tt,tt,ff,tt,ff,ff,tt,tt]) := mkEnd T_ok (C k) _ c0 z0 (.auto) tr (fun x S K => q0 k (fun o S => K .nrm (Qm z0 o S))  x S) (fun x S K => by kernel_rfl)
def b1 (k : Nat) (J2 : Kt R (U1)) (Jret : Kt R (Int × U1)) (rec : Kt R (LL × Int × U1)) (x : (LL × Int × U1)) (S : LL) : Option R :=
  ifB (decide (x.2.1 < (x.1.length : Int))) (rounds (b2 k (fun o16 S => rec (o16.1, (IntKind.wrap .i64 (o16.2.1 + (1 : Int))), ()) S) (fun o17 S => Jret (o17.1, ()) S)) k (x.1, x.2.1, (0 : Int), ()) S) (J2 (()) S)
def L1 (k : Nat) : Pc PG R (.loop (sub (cd Tryz.f96) [tt,tt,tt,tt,ff,tt,ff,ff])) := mkLoop T_ok (C k) _ m1 k (.seq (.seq .auto (.cond .auto (.mask e2 .auto))) (.seq (.block (.seq .auto (.block (.piece (L2 k).h)))) .auto)) ⟨⟨tr, tr, tr⟩, ⟨tr, (L2 k).ok⟩, tr⟩ (fun K => b1 k (fun o S => K (.ext 2) (Qm e2 o S)) (fun o S => K .ret (Qm mr o S))) (fun K rec x S => by kernel_rfl)
def b0 (k : Nat) (J0 : Kt R (LL × U1)) (Jret : Kt R (Int × U1)) (rec : Kt R (LL × Int × U1)) (x : (LL × Int × U1)) (S : LL) : Option R :=
  ifB (decide (x.2.1 < (x.1.length : Int))) (idxL x.1 x.2.1 fun v1 => asStr (leaf v1 0) fun s2 => smithyardref1_IsPath.fn k (s2, ()) S fun r3 S => ifB (!r3.1) (Jret ((3 : Int), ()) S) (ifB (decide (x.2.1 > (0 : Int))) (idxL x.1 x.2.1 fun v4 => asStr (leaf v4 0) fun s5 => idxL x.1 (IntKind.wrap .i64 (x.2.1 - (1 : Int))) fun v6 => asStr (leaf v6 0) fun s7 => ifB (strLt s5 s7 || strEq s5 s7) (Jret ((8 : Int), ()) S) (q0 k (fun o8 S => rec (o8.1, o8.2.1, ()) S) (x.1, x.2.1, ()) S)) (q0 k (fun o9 S => rec (o9.1, o9.2.1, ()) S) (x.1, x.2.1, ()) S))) (J0 (x.1, ()) S)
def L0 (k : Nat) : Pc PG R (.loop (sub (cd Tryz.f96) [tt,tt,tt,ff,tt,ff,ff])) := mkLoop T_ok (C k) _ m0 k (.seq (.seq .auto (.cond .auto (.mask e0 .auto))) (.seq (.block (.seq (.seq .auto (.cond (.seq .auto (.mask mr .auto)) .auto)) (.seq (.drawn [] [0, 1, 2, 3, 4, 5, 6, 7, 8, 9, 10, 11, 12, 13]) (.cond (.seq .auto (.mask mr .auto)) .auto)))) (.piece (Q0 k).h))) ⟨⟨tr, tr, tr⟩, ⟨⟨tr, ⟨tr, tr⟩, tr⟩, (drawn_an (by kernel_rfl)), ⟨tr, tr⟩, tr⟩, (Q0 k).ok⟩ (fun K => b0 k (fun o S => K (.ext 0) (Qm e0 o S)) (fun o S => K .ret (Qm mr o S))) (fun K rec x S => by kernel_rfl)
def fn (k : Nat) (x : (LL × U1)) (S : LL) (K : Kt R (Int × U1)) : Option R :=
  ifB ((x.1.length : Int) == (0 : Int)) (K ((9 : Int), ()) S) (ifB (decide ((x.1.length : Int) > (100 : Int))) (K ((2 : Int), ()) S) (rounds (b0 k (fun o10 S => rounds (b1 k (fun o18 S => K ((0 : Int), ()) S) (fun o19 S => K (o19.1, ()) S)) k (o10.1, (0 : Int), ()) S) (fun o20 S => K (o20.1, ()) S)) k (x.1, (0 : Int), ()) S))
def en (k : Nat) : Ent PG R := mkFn T_ok Tryz.func96 ps rs (C k) (.seq .auto (.seq (.seq .auto (.cond (.seq .auto (.mask mr .auto)) .auto)) (.seq (.seq .auto (.cond (.seq .auto (.mask mr .auto)) .auto)) (.seq (.seq .auto (.block (.piece (L0 k).h))) (.seq (.seq .auto (.block (.piece (L1 k).h))) (.seq .auto (.mask mr .auto))))))) ⟨tr, ⟨tr, ⟨tr, tr⟩, tr⟩, ⟨tr, ⟨tr, tr⟩, tr⟩, ⟨tr, (L0 k).ok⟩, ⟨tr, (L1 k).ok⟩, tr, tr⟩ (fn k) (by kernel_rfl) (by kernel_rfl) (fun x S K => by kernel_rfl)
end G.smithyardref5_checkOutputs
/-! ### 60: smithyard/smithyardref5.CheckAction -/
namespace G.smithyardref5_CheckAction
abbrev e0 : Mk := n1 (sX [.str, .sl 1, .sl 2, .sl 1, .sl 2, jI] (nX (nX (nX (nX (nX (n6 [])))))))
abbrev m0 : Mk := n1 (sX [.str, .sl 1, .sl 2, .sl 1, .sl 2, jI] (n1 (sI (nX (nX (nX (nX (nX (n4 [])))))))))
abbrev mr : Mk := n2 (sI (nX (nX (nX (nX (nX (n5 [])))))))
abbrev ps : Mk := sA [.str, .sl 1, .sl 2, .sl 1, .sl 2, jI] []
abbrev rs : Mk := sI []
def C (k : Nat) : List (Ent PG R) := [smithyardref1_IsDigest.en k, smithyardref5_checkCommand.en k, smithyardref5_checkVars.en k, smithyardref5_checkOutputs.en k, smithyardref5_within.en k]
def b0 (k : Nat) (J0 : Kt R ((BA × LL × LL × LL × LL × Int × U1) × U1)) (Jret : Kt R (Int × U1)) (rec : Kt R ((BA × LL × LL × LL × LL × Int × U1) × Int × U1)) (x : ((BA × LL × LL × LL × LL × Int × U1) × Int × U1)) (S : LL) : Option R :=
  ifB (decide (x.2.1 < (x.1.2.1.length : Int))) (idxL x.1.2.1 x.2.1 fun v2 => asSl 1 (leaf v2 0) fun l3 => smithyardref5_checkCommand.fn k (l3, ()) S fun r4 S => ifB (r4.1 != (0 : Int)) (Jret (r4.1, ()) S) (rec ((x.1.1, x.1.2.1, x.1.2.2.1, x.1.2.2.2.1, x.1.2.2.2.2.1, x.1.2.2.2.2.2.1, ()), (IntKind.wrap .i64 (x.2.1 + (1 : Int))), ()) S)) (J0 ((x.1.1, x.1.2.1, x.1.2.2.1, x.1.2.2.2.1, x.1.2.2.2.2.1, x.1.2.2.2.2.2.1, ()), ()) S)
def L0 (k : Nat) : Pc PG R (.loop (sub (cd Tryz.f60) [tt,tt,tt,tt,ff,tt,ff,ff])) := mkLoop T_ok (C k) _ m0 k (.seq (.seq .auto (.cond .auto (.mask e0 .auto))) (.seq (.block (.seq .auto (.seq .auto (.cond (.seq .auto (.mask mr .auto)) .auto)))) .auto)) ⟨⟨tr, tr, tr⟩, ⟨tr, tr, ⟨tr, tr⟩, tr⟩, tr⟩ (fun K => b0 k (fun o S => K (.ext 0) (Qm e0 o S)) (fun o S => K .ret (Qm mr o S))) (fun K rec x S => by kernel_rfl)
def fn (k : Nat) (x : ((BA × LL × LL × LL × LL × Int × U1) × U1)) (S : LL) (K : Kt R (Int × U1)) : Option R :=
  smithyardref1_IsDigest.fn k (x.1.1, ()) S fun r1 S => ifB (!r1.1) (K ((3 : Int), ()) S) (ifB ((x.1.2.1.length : Int) == (0 : Int)) (K ((9 : Int), ()) S) (ifB (decide ((x.1.2.1.length : Int) > (50 : Int))) (K ((2 : Int), ()) S) (rounds (b0 k (fun o5 S => smithyardref5_checkVars.fn k (o5.1.2.2.1, ()) S fun r6 S => ifB (r6.1 != (0 : Int)) (K (r6.1, ()) S) (smithyardref5_checkOutputs.fn k (o5.1.2.2.2.1, ()) S fun r7 S => ifB (r7.1 != (0 : Int)) (K (r7.1, ()) S) (smithyardref5_checkVars.fn k (o5.1.2.2.2.2.1, ()) S fun r8 S => ifB (r8.1 != (0 : Int)) (K (r8.1, ()) S) (smithyardref5_within.fn k (o5.1.2.2.2.2.2.1, (1 : Int), (100000 : Int), ()) S fun r9 S => ifB (!r9.1) (K ((1 : Int), ()) S) (K ((0 : Int), ()) S))))) (fun o10 S => K (o10.1, ()) S)) k ((x.1.1, x.1.2.1, x.1.2.2.1, x.1.2.2.2.1, x.1.2.2.2.2.1, x.1.2.2.2.2.2.1, ()), (0 : Int), ()) S)))
def en (k : Nat) : Ent PG R := mkFn T_ok Tryz.func60 ps rs (C k) (.seq .auto (.seq (.seq .auto (.cond (.seq .auto (.mask mr .auto)) .auto)) (.seq (.seq .auto (.cond (.seq .auto (.mask mr .auto)) .auto)) (.seq (.seq .auto (.cond (.seq .auto (.mask mr .auto)) .auto)) (.seq (.seq .auto (.block (.piece (L0 k).h))) (.seq (.seq .auto (.seq .auto (.cond (.seq .auto (.mask mr .auto)) .auto))) (.seq (.seq .auto (.seq .auto (.cond (.seq .auto (.mask mr .auto)) .auto))) (.seq (.seq .auto (.seq .auto (.cond (.seq .auto (.mask mr .auto)) .auto))) (.seq (.seq .auto (.cond (.seq .auto (.mask mr .auto)) .auto)) (.seq .auto (.mask mr .auto))))))))))) ⟨tr, ⟨tr, ⟨tr, tr⟩, tr⟩, ⟨tr, ⟨tr, tr⟩, tr⟩, ⟨tr, ⟨tr, tr⟩, tr⟩, ⟨tr, (L0 k).ok⟩, ⟨tr, tr, ⟨tr, tr⟩, tr⟩, ⟨tr, tr, ⟨tr, tr⟩, tr⟩, ⟨tr, tr, ⟨tr, tr⟩, tr⟩, ⟨tr, ⟨tr, tr⟩, tr⟩, tr, tr⟩ (fn k) (by kernel_rfl) (by kernel_rfl) (fun x S K => by kernel_rfl)
end G.smithyardref5_CheckAction
/-! ### 30: smithyard/smithyardref6.checkRule -/
namespace G.smithyardref6_checkRule
abbrev c0 : Mk := n1 (sX [.str, .str, .sl 1, .sl 2, .sl 1, .sl 2, jI, .sl 1] (n2 (sI (nX (nX (nX (nX (n4 []))))))))
abbrev z0 : Mk := n1 (sX [.str, .str, .sl 1, .sl 2, .sl 1, .sl 2, jI, .sl 1] (n2 (sI (nX (nX (nX (nX (n4 []))))))))
abbrev e0 : Mk := nX (nX (nX (nX (n9 []))))
abbrev m0 : Mk := n1 (sX [.str, .str, .sl 1, .sl 2, .sl 1, .sl 2, jI, .sl 1] (n2 (sI (nX (nX (nX (nX (n4 []))))))))
abbrev mr : Mk := n2 (sI (nX (nX (nX (nX (n6 []))))))
abbrev ps : Mk := sA [.str, .str, .sl 1, .sl 2, .sl 1, .sl 2, jI, .sl 1] []
abbrev rs : Mk := sI []
def C (k : Nat) : List (Ent PG R) := [smithyardref1_IsPath.en k, smithyardref5_CheckAction.en k]
def q0 (k : Nat) (Jnrm : Kt R ((BA × BA × LL × LL × LL × LL × Int × LL × U1) × Int × U1))  (x : ((BA × BA × LL × LL × LL × LL × Int × LL × U1) × Int × U1)) (S : LL) : Option R :=
  Jnrm ((x.1.1, x.1.2.1, x.1.2.2.1, x.1.2.2.2.1, x.1.2.2.2.2.1, x.1.2.2.2.2.2.1, x.1.2.2.2.2.2.2.1, x.1.2.2.2.2.2.2.2.1, ()), (IntKind.wrap .i64 (x.2.1 + (1 : Int))), ()) S
def Q0 (k : Nat) : Pc PG R (sub (cd Tryz.f30) [tt,tt,tt,tt,ff,tt,ff,ff,tt,tt]) := mkEnd T_ok (C k) _ c0 z0 (.auto) tr (fun x S K => q0 k (fun o S => K .nrm (Qm z0 o S))  x S) (fun x S K => by kernel_rfl)
def b0 (k : Nat) (J0 : Kt R (U1)) (Jret : Kt R (Int × U1)) (rec : Kt R ((BA × BA × LL × LL × LL × LL × Int × LL × U1) × Int × U1)) (x : ((BA × BA × LL × LL × LL × LL × Int × LL × U1) × Int × U1)) (S : LL) : Option R :=
  ifB (decide (x.2.1 < (x.1.2.2.2.2.2.2.2.1.length : Int))) (idxL x.1.2.2.2.2.2.2.2.1 x.2.1 fun v3 => asStr (leaf v3 0) fun s4 => smithyardref1_IsPath.fn k (s4, ()) S fun r5 S => ifB (!r5.1) (Jret ((3 : Int), ()) S) (ifB (decide (x.2.1 > (0 : Int))) (idxL x.1.2.2.2.2.2.2.2.1 x.2.1 fun v6 => asStr (leaf v6 0) fun s7 => idxL x.1.2.2.2.2.2.2.2.1 (IntKind.wrap .i64 (x.2.1 - (1 : Int))) fun v8 => asStr (leaf v8 0) fun s9 => ifB (strLt s7 s9 || strEq s7 s9) (Jret ((8 : Int), ()) S) (q0 k (fun o10 S => rec ((o10.1.1, o10.1.2.1, o10.1.2.2.1, o10.1.2.2.2.1, o10.1.2.2.2.2.1, o10.1.2.2.2.2.2.1, o10.1.2.2.2.2.2.2.1, o10.1.2.2.2.2.2.2.2.1, ()), o10.2.1, ()) S) ((x.1.1, x.1.2.1, x.1.2.2.1, x.1.2.2.2.1, x.1.2.2.2.2.1, x.1.2.2.2.2.2.1, x.1.2.2.2.2.2.2.1, x.1.2.2.2.2.2.2.2.1, ()), x.2.1, ()) S)) (q0 k (fun o11 S => rec ((o11.1.1, o11.1.2.1, o11.1.2.2.1, o11.1.2.2.2.1, o11.1.2.2.2.2.1, o11.1.2.2.2.2.2.1, o11.1.2.2.2.2.2.2.1, o11.1.2.2.2.2.2.2.2.1, ()), o11.2.1, ()) S) ((x.1.1, x.1.2.1, x.1.2.2.1, x.1.2.2.2.1, x.1.2.2.2.2.1, x.1.2.2.2.2.2.1, x.1.2.2.2.2.2.2.1, x.1.2.2.2.2.2.2.2.1, ()), x.2.1, ()) S))) (J0 (()) S)
def L0 (k : Nat) : Pc PG R (.loop (sub (cd Tryz.f30) [tt,tt,tt,tt,ff,tt,ff,ff])) := mkLoop T_ok (C k) _ m0 k (.seq (.seq .auto (.cond .auto (.mask e0 .auto))) (.seq (.block (.seq (.seq .auto (.cond (.seq .auto (.mask mr .auto)) .auto)) (.seq (.drawn [] [0, 1, 2, 3, 4, 5, 6, 7, 8, 9, 10, 11, 12, 13, 14, 15]) (.cond (.seq .auto (.mask mr .auto)) .auto)))) (.piece (Q0 k).h))) ⟨⟨tr, tr, tr⟩, ⟨⟨tr, ⟨tr, tr⟩, tr⟩, (drawn_an (by kernel_rfl)), ⟨tr, tr⟩, tr⟩, (Q0 k).ok⟩ (fun K => b0 k (fun o S => K (.ext 0) (Qm e0 o S)) (fun o S => K .ret (Qm mr o S))) (fun K rec x S => by kernel_rfl)
def fn (k : Nat) (x : ((BA × BA × LL × LL × LL × LL × Int × LL × U1) × U1)) (S : LL) (K : Kt R (Int × U1)) : Option R :=
  smithyardref1_IsPath.fn k (x.1.1, ()) S fun r1 S => ifB (!r1.1) (K ((3 : Int), ()) S) (smithyardref5_CheckAction.fn k ((x.1.2.1, x.1.2.2.1, x.1.2.2.2.1, x.1.2.2.2.2.1, x.1.2.2.2.2.2.1, x.1.2.2.2.2.2.2.1, ()), ()) S fun r2 S => ifB (r2.1 != (0 : Int)) (K (r2.1, ()) S) (ifB (decide ((x.1.2.2.2.2.2.2.2.1.length : Int) > (1000 : Int))) (K ((2 : Int), ()) S) (rounds (b0 k (fun o12 S => K ((0 : Int), ()) S) (fun o13 S => K (o13.1, ()) S)) k ((x.1.1, x.1.2.1, x.1.2.2.1, x.1.2.2.2.1, x.1.2.2.2.2.1, x.1.2.2.2.2.2.1, x.1.2.2.2.2.2.2.1, x.1.2.2.2.2.2.2.2.1, ()), (0 : Int), ()) S)))
def en (k : Nat) : Ent PG R := mkFn T_ok Tryz.func30 ps rs (C k) (.seq .auto (.seq (.seq .auto (.cond (.seq .auto (.mask mr .auto)) .auto)) (.seq (.seq .auto (.seq .auto (.cond (.seq .auto (.mask mr .auto)) .auto))) (.seq (.seq .auto (.cond (.seq .auto (.mask mr .auto)) .auto)) (.seq (.seq .auto (.block (.piece (L0 k).h))) (.seq .auto (.mask mr .auto))))))) ⟨tr, ⟨tr, ⟨tr, tr⟩, tr⟩, ⟨tr, tr, ⟨tr, tr⟩, tr⟩, ⟨tr, ⟨tr, tr⟩, tr⟩, ⟨tr, (L0 k).ok⟩, tr, tr⟩ (fn k) (by kernel_rfl) (by kernel_rfl) (fun x S K => by kernel_rfl)
end G.smithyardref6_checkRule
/-! ### 42: smithyard/smithyardref6.has -/
namespace G.smithyardref6_has
abbrev e0 : Mk := nX (n8 [])
abbrev m0 : Mk := sL 1 (sS (n3 (sI (nX (n2 [])))))
abbrev mr : Mk := n4 (sB (nX (n3 [])))
abbrev ps : Mk := sL 1 (sS [])
abbrev rs : Mk := sB []
def C (k : Nat) : List (Ent PG R) := []
def b0 (k : Nat) (J0 : Kt R (U1)) (Jret : Kt R (Bool × U1)) (rec : Kt R (LL × BA × Int × U1)) (x : (LL × BA × Int × U1)) (S : LL) : Option R :=
  ifB (decide (x.2.2.1 < (x.1.length : Int))) (idxL x.1 x.2.2.1 fun v1 => asStr (leaf v1 0) fun s2 => ifB (strEq s2 x.2.1) (Jret (true, ()) S) (rec (x.1, x.2.1, (IntKind.wrap .i64 (x.2.2.1 + (1 : Int))), ()) S)) (J0 (()) S)
def L0 (k : Nat) : Pc PG R (.loop (sub (cd Tryz.f42) [tt,ff,tt,ff,ff])) := mkLoop T_ok (C k) _ m0 k (.seq (.seq .auto (.cond .auto (.mask e0 .auto))) (.seq (.block (.seq .auto (.cond (.seq .auto (.mask mr .auto)) .auto))) .auto)) ⟨⟨tr, tr, tr⟩, ⟨tr, ⟨tr, tr⟩, tr⟩, tr⟩ (fun K => b0 k (fun o S => K (.ext 0) (Qm e0 o S)) (fun o S => K .ret (Qm mr o S))) (fun K rec x S => by kernel_rfl)
def fn (k : Nat) (x : (LL × BA × U1)) (S : LL) (K : Kt R (Bool × U1)) : Option R :=
  rounds (b0 k (fun o3 S => K (false, ()) S) (fun o4 S => K (o4.1, ()) S)) k (x.1, x.2.1, (0 : Int), ()) S
def en (k : Nat) : Ent PG R := mkFn T_ok Tryz.func42 ps rs (C k) (.seq .auto (.seq (.seq .auto (.block (.piece (L0 k).h))) (.seq .auto (.mask mr .auto)))) ⟨tr, ⟨tr, (L0 k).ok⟩, tr, tr⟩ (fn k) (by kernel_rfl) (by kernel_rfl) (fun x S K => by kernel_rfl)
end G.smithyardref6_has
/-! ### 62: smithyard/smithyardref6.nested -/
namespace G.smithyardref6_nested
abbrev mr : Mk := n4 (sB (n8 []))
abbrev ps : Mk := sS (sS [])
abbrev rs : Mk := sB []
def C (k : Nat) : List (Ent PG R) := [smithyardref1_Lies.en k]
def fn (k : Nat) (x : (BA × BA × U1)) (S : LL) (K : Kt R (Bool × U1)) : Option R :=
  smithyardref1_Lies.fn k (x.1, x.2.1, ()) S fun r1 S => ifB r1.1 (K (true, ()) S) (smithyardref1_Lies.fn k (x.2.1, x.1, ()) S fun r2 S => K (r2.1, ()) S)
def en (k : Nat) : Ent PG R := mkFn T_ok Tryz.func62 ps rs (C k) (.seq .auto (.seq .auto (.mask mr .auto))) ⟨tr, tr, tr⟩ (fn k) (by kernel_rfl) (by kernel_rfl) (fun x S K => by kernel_rfl)
end G.smithyardref6_nested
/-! ### 31: smithyard/smithyardref6.checkOutput -/
namespace G.smithyardref6_checkOutput
abbrev c0 : Mk := sL 8 (sI (sS (n5 (sI (sI (nX (nX (nX (nX (nX (nX (n7 []))))))))))))
abbrev z0 : Mk := sL 8 (sI (sS (n5 (sI (sI (nX (nX (nX (nX (nX (nX (n7 []))))))))))))
abbrev e0 : Mk := sL 8 (sI (sS (nX (nX (nX (nX (nX (nX (nX (n4 []))))))))))
abbrev e2 : Mk := nX (nX (nX (nX (nX (nX (nX (n7 [])))))))
abbrev e4 : Mk := sL 8 (sI (sS (n5 (sI (nX (nX (nX (nX (nX (nX (n8 [])))))))))))
abbrev e6 : Mk := sL 8 (sI (sS (n5 (sI (nX (nX (nX (nX (nX (nX (n8 [])))))))))))
abbrev m0 : Mk := sL 8 (sI (sS (n4 (sI (nX (nX (nX (nX (nX (nX (n9 [])))))))))))
abbrev m1 : Mk := sL 8 (sI (sS (n5 (sI (nX (nX (nX (nX (nX (nX (n8 [])))))))))))
abbrev m2 : Mk := sL 8 (sI (sS (n5 (sI (sI (nX (nX (nX (nX (nX (nX (n7 []))))))))))))
abbrev m3 : Mk := sL 8 (sI (sS (n5 (sI (n1 (sI (nX (nX (nX (nX (nX (nX (n6 [])))))))))))))
abbrev mr : Mk := n6 (sI (nX (nX (nX (nX (nX (nX (nX []))))))))
abbrev ps : Mk := sL 8 (sI (sS []))
abbrev rs : Mk := sI []
def C (k : Nat) : List (Ent PG R) := [smithyardref6_has.en k, smithyardref1_Lies.en k, smithyardref6_nested.en k]
def q0 (k : Nat) (Jnrm : Kt R (LL × Int × BA × Int × Int × U1))  (x : (LL × Int × BA × Int × Int × U1)) (S : LL) : Option R :=
  Jnrm (x.1, x.2.1, x.2.2.1, x.2.2.2.1, (IntKind.wrap .i64 (x.2.2.2.2.1 + (1 : Int))), ()) S
def Q0 (k : Nat) : Pc PG R (sub (cd Tryz.f31) [tt,tt,ff,tt,ff,ff,tt,ff,ff,ff,tt,ff,ff,tt,tt]) := mkEnd T_ok (C k) _ c0 z0 (.auto) tr (fun x S K => q0 k (fun o S => K .nrm (Qm z0 o S))  x S) (fun x S K => by kernel_rfl)
def b2 (k : Nat) (J4 : Kt R (LL × Int × BA × Int × U1)) (Jret : Kt R (Int × U1)) (rec : Kt R (LL × Int × BA × Int × Int × U1)) (x : (LL × Int × BA × Int × Int × U1)) (S : LL) : Option R :=
  idxL x.1 x.2.2.2.1 fun v5 => asSl 1 (leaf v5 4) fun l6 => ifB (decide (x.2.2.2.2.1 < (l6.length : Int))) (ifB (x.2.2.2.1 != x.2.1) (idxL x.1 x.2.2.2.1 fun v7 => asSl 1 (leaf v7 4) fun l8 => idxL l8 x.2.2.2.2.1 fun v9 => asStr (leaf v9 0) fun s10 => smithyardref1_Lies.fn k (x.2.2.1, s10, ()) S fun r11 S => ifB r11.1 (Jret ((12 : Int), ()) S) (q0 k (fun o12 S => rec (o12.1, o12.2.1, o12.2.2.1, o12.2.2.2.1, o12.2.2.2.2.1, ()) S) (x.1, x.2.1, x.2.2.1, x.2.2.2.1, x.2.2.2.2.1, ()) S)) (J4 (x.1, x.2.1, x.2.2.1, x.2.2.2.1, ()) S)) (J4 (x.1, x.2.1, x.2.2.1, x.2.2.2.1, ()) S)
def L2 (k : Nat) : Pc PG R (.loop (sub (cd Tryz.f31) [tt,tt,ff,tt,ff,ff,tt,ff,ff,ff,tt,ff,ff])) := mkLoop T_ok (C k) _ m2 k (.seq (.seq .auto (.cond .auto (.mask e4 .auto))) (.seq (.block (.seq .auto (.cond (.seq .auto (.mask mr .auto)) .auto))) (.piece (Q0 k).h))) ⟨⟨tr, tr, tr⟩, ⟨tr, ⟨tr, tr⟩, tr⟩, (Q0 k).ok⟩ (fun K => b2 k (fun o S => K (.ext 4) (Qm e4 o S)) (fun o S => K .ret (Qm mr o S))) (fun K rec x S => by kernel_rfl)
def b3 (k : Nat) (J6 : Kt R (LL × Int × BA × Int × U1)) (Jret : Kt R (Int × U1)) (rec : Kt R (LL × Int × BA × Int × Int × U1)) (x : (LL × Int × BA × Int × Int × U1)) (S : LL) : Option R :=
  idxL x.1 x.2.2.2.1 fun v14 => asSl 1 (leaf v14 7) fun l15 => ifB (decide (x.2.2.2.2.1 < (l15.length : Int))) (idxL x.1 x.2.2.2.1 fun v16 => asSl 1 (leaf v16 7) fun l17 => idxL l17 x.2.2.2.2.1 fun v18 => asStr (leaf v18 0) fun s19 => smithyardref6_nested.fn k (x.2.2.1, s19, ()) S fun r20 S => ifB r20.1 (Jret ((12 : Int), ()) S) (rec (x.1, x.2.1, x.2.2.1, x.2.2.2.1, (IntKind.wrap .i64 (x.2.2.2.2.1 + (1 : Int))), ()) S)) (J6 (x.1, x.2.1, x.2.2.1, x.2.2.2.1, ()) S)
def L3 (k : Nat) : Pc PG R (.loop (sub (cd Tryz.f31) [tt,tt,ff,tt,ff,ff,tt,ff,ff,tt,tt,ff,ff])) := mkLoop T_ok (C k) _ m3 k (.seq (.seq .auto (.cond .auto (.mask e6 .auto))) (.seq (.block (.seq .auto (.cond (.seq .auto (.mask mr .auto)) .auto))) .auto)) ⟨⟨tr, tr, tr⟩, ⟨tr, ⟨tr, tr⟩, tr⟩, tr⟩ (fun K => b3 k (fun o S => K (.ext 6) (Qm e6 o S)) (fun o S => K .ret (Qm mr o S))) (fun K rec x S => by kernel_rfl)
def b1 (k : Nat) (J2 : Kt R (U1)) (Jret : Kt R (Int × U1)) (rec : Kt R (LL × Int × BA × Int × U1)) (x : (LL × Int × BA × Int × U1)) (S : LL) : Option R :=
  ifB (decide (x.2.2.2.1 < (x.1.length : Int))) (rounds (b2 k (fun o13 S => rounds (b3 k (fun o21 S => rec (o21.1, o21.2.1, o21.2.2.1, (IntKind.wrap .i64 (o21.2.2.2.1 + (1 : Int))), ()) S) (fun o22 S => Jret (o22.1, ()) S)) k (o13.1, o13.2.1, o13.2.2.1, o13.2.2.2.1, (0 : Int), ()) S) (fun o23 S => Jret (o23.1, ()) S)) k (x.1, x.2.1, x.2.2.1, x.2.2.2.1, (0 : Int), ()) S) (J2 (()) S)
def L1 (k : Nat) : Pc PG R (.loop (sub (cd Tryz.f31) [tt,tt,ff,tt,ff,ff])) := mkLoop T_ok (C k) _ m1 k (.seq (.seq .auto (.cond .auto (.mask e2 .auto))) (.seq (.block (.seq (.seq .auto (.block (.piece (L2 k).h))) (.seq .auto (.block (.piece (L3 k).h))))) .auto)) ⟨⟨tr, tr, tr⟩, ⟨⟨tr, (L2 k).ok⟩, tr, (L3 k).ok⟩, tr⟩ (fun K => b1 k (fun o S => K (.ext 2) (Qm e2 o S)) (fun o S => K .ret (Qm mr o S))) (fun K rec x S => by kernel_rfl)
def b0 (k : Nat) (J0 : Kt R (LL × Int × BA × U1)) (Jret : Kt R (Int × U1)) (rec : Kt R (LL × Int × BA × Int × U1)) (x : (LL × Int × BA × Int × U1)) (S : LL) : Option R :=
  ifB (decide (x.2.2.2.1 < x.2.1)) (idxL x.1 x.2.2.2.1 fun v1 => asSl 1 (leaf v1 4) fun l2 => smithyardref6_has.fn k (l2, x.2.2.1, ()) S fun r3 S => ifB r3.1 (Jret ((7 : Int), ()) S) (rec (x.1, x.2.1, x.2.2.1, (IntKind.wrap .i64 (x.2.2.2.1 + (1 : Int))), ()) S)) (J0 (x.1, x.2.1, x.2.2.1, ()) S)
def L0 (k : Nat) : Pc PG R (.loop (sub (cd Tryz.f31) [tt,ff,tt,ff,ff])) := mkLoop T_ok (C k) _ m0 k (.seq (.seq .auto (.cond .auto (.mask e0 .auto))) (.seq (.block (.seq .auto (.cond (.seq .auto (.mask mr .auto)) .auto))) .auto)) ⟨⟨tr, tr, tr⟩, ⟨tr, ⟨tr, tr⟩, tr⟩, tr⟩ (fun K => b0 k (fun o S => K (.ext 0) (Qm e0 o S)) (fun o S => K .ret (Qm mr o S))) (fun K rec x S => by kernel_rfl)
def fn (k : Nat) (x : (LL × Int × BA × U1)) (S : LL) (K : Kt R (Int × U1)) : Option R :=
  rounds (b0 k (fun o4 S => rounds (b1 k (fun o24 S => K ((0 : Int), ()) S) (fun o25 S => K (o25.1, ()) S)) k (o4.1, o4.2.1, o4.2.2.1, (0 : Int), ()) S) (fun o26 S => K (o26.1, ()) S)) k (x.1, x.2.1, x.2.2.1, (0 : Int), ()) S
def en (k : Nat) : Ent PG R := mkFn T_ok Tryz.func31 ps rs (C k) (.seq .auto (.seq (.seq .auto (.block (.piece (L0 k).h))) (.seq (.seq .auto (.block (.piece (L1 k).h))) (.seq .auto (.mask mr .auto))))) ⟨tr, ⟨tr, (L0 k).ok⟩, ⟨tr, (L1 k).ok⟩, tr, tr⟩ (fn k) (by kernel_rfl) (by kernel_rfl) (fun x S K => by kernel_rfl)
end G.smithyardref6_checkOutput
/-! ### 29: smithyard/smithyardref6.needs -/
namespace G.smithyardref6_needs
abbrev c0 : Mk := sL 8 (n2 (sh (.lf (.osl 1)) (sI (sI (sB (sI (nX (nX (nX (nX (nX (n6 []))))))))))))
abbrev c1 : Mk := sL 8 (n2 (sh (.lf (.osl 1)) (sI (sI (nX (nX (nX (nX (nX (n8 []))))))))))
abbrev z0 : Mk := sL 8 (n2 (sh (.lf (.osl 1)) (sI (sI (sB (sI (nX (nX (nX (nX (nX (n6 []))))))))))))
abbrev z1 : Mk := sL 8 (n2 (sh (.lf (.osl 1)) (sI (sI (nX (nX (nX (nX (nX (n8 []))))))))))
abbrev e0 : Mk := n3 (sh (.lf (.osl 1)) (nX (nX (nX (nX (nX (nX [])))))))
abbrev e2 : Mk := sL 8 (n2 (sh (.lf (.osl 1)) (sI (nX (nX (nX (nX (nX (n9 [])))))))))
abbrev e4 : Mk := sL 8 (n2 (sh (.lf (.osl 1)) (sI (sI (sB (nX (nX (nX (nX (nX (n7 [])))))))))))
abbrev m0 : Mk := sL 8 (n2 (sh (.lf (.osl 1)) (sI (nX (nX (nX (nX (nX (n9 [])))))))))
abbrev m1 : Mk := sL 8 (n2 (sh (.lf (.osl 1)) (sI (sI (nX (nX (nX (nX (nX (n8 []))))))))))
abbrev m2 : Mk := sL 8 (n2 (sh (.lf (.osl 1)) (sI (sI (sB (sI (nX (nX (nX (nX (nX (n6 []))))))))))))
abbrev mr : Mk := n2 (sL 1 (nX (nX (nX (nX (nX (nX (n1 []))))))))
abbrev ps : Mk := sL 8 []
abbrev rs : Mk := sL 1 []
def C (k : Nat) : List (Ent PG R) := [smithyardref6_has.en k]
def q0 (k : Nat) (Jnrm : Kt R (LL × (Nat × Nat × Nat) × Int × Int × Bool × Int × U1))  (x : (LL × (Nat × Nat × Nat) × Int × Int × Bool × Int × U1)) (S : LL) : Option R :=
  Jnrm (x.1, (x.2.1.1, x.2.1.2.1, x.2.1.2.2), x.2.2.1, x.2.2.2.1, x.2.2.2.2.1, (IntKind.wrap .i64 (x.2.2.2.2.2.1 + (1 : Int))), ()) S
def Q0 (k : Nat) : Pc PG R (sub (cd Tryz.f29) [tt,tt,ff,tt,ff,ff,tt,ff,ff,tt,ff,ff,tt,ff,ff,tt,ff,tt,ff,ff,tt,tt]) := mkEnd T_ok (C k) _ c0 z0 (.auto) tr (fun x S K => q0 k (fun o S => K .nrm (Qm z0 o S))  x S) (fun x S K => by kernel_rfl)
def b2 (k : Nat) (J4 : Kt R (LL × (Nat × Nat × Nat) × Int × Int × Bool × U1)) (rec : Kt R (LL × (Nat × Nat × Nat) × Int × Int × Bool × Int × U1)) (x : (LL × (Nat × Nat × Nat) × Int × Int × Bool × Int × U1)) (S : LL) : Option R :=
  idxL x.1 x.2.2.2.1 fun v3 => asSl 1 (leaf v3 4) fun l4 => ifB (decide (x.2.2.2.2.2.1 < (l4.length : Int))) (ifB x.2.2.2.2.1 (q0 k (fun o5 S => rec (o5.1, (o5.2.1.1, o5.2.1.2.1, o5.2.1.2.2), o5.2.2.1, o5.2.2.2.1, o5.2.2.2.2.1, o5.2.2.2.2.2.1, ()) S) (x.1, (x.2.1.1, x.2.1.2.1, x.2.1.2.2), x.2.2.1, x.2.2.2.1, true, x.2.2.2.2.2.1, ()) S) (idxL x.1 x.2.2.1 fun v6 => asSl 1 (leaf v6 7) fun l7 => idxL x.1 x.2.2.2.1 fun v8 => asSl 1 (leaf v8 4) fun l9 => idxL l9 x.2.2.2.2.2.1 fun v10 => asStr (leaf v10 0) fun s11 => smithyardref6_has.fn k (l7, s11, ()) S fun r12 S => q0 k (fun o13 S => rec (o13.1, (o13.2.1.1, o13.2.1.2.1, o13.2.1.2.2), o13.2.2.1, o13.2.2.2.1, o13.2.2.2.2.1, o13.2.2.2.2.2.1, ()) S) (x.1, (x.2.1.1, x.2.1.2.1, x.2.1.2.2), x.2.2.1, x.2.2.2.1, r12.1, x.2.2.2.2.2.1, ()) S)) (J4 (x.1, (x.2.1.1, x.2.1.2.1, x.2.1.2.2), x.2.2.1, x.2.2.2.1, x.2.2.2.2.1, ()) S)
def L2 (k : Nat) : Pc PG R (.loop (sub (cd Tryz.f29) [tt,tt,ff,tt,ff,ff,tt,ff,ff,tt,ff,ff,tt,ff,ff,tt,ff,tt,ff,ff])) := mkLoop T_ok (C k) _ m2 k (.seq (.seq .auto (.cond .auto (.mask e4 .auto))) (.seq (.block (.drawn [] [0, 1, 2, 3, 4, 5, 6, 7, 8, 9, 10, 11, 12, 13, 14, 15, 16, 17, 18])) (.piece (Q0 k).h))) ⟨⟨tr, tr, tr⟩, (drawn_an (by kernel_rfl)), (Q0 k).ok⟩ (fun K => b2 k (fun o S => K (.ext 4) (Qm e4 o S))) (fun K rec x S => by kernel_rfl)
def q1 (k : Nat) (Jnrm : Kt R (LL × (Nat × Nat × Nat) × Int × Int × U1))  (x : (LL × (Nat × Nat × Nat) × Int × Int × U1)) (S : LL) : Option R :=
  Jnrm (x.1, (x.2.1.1, x.2.1.2.1, x.2.1.2.2), x.2.2.1, (IntKind.wrap .i64 (x.2.2.2.1 + (1 : Int))), ()) S
def Q1 (k : Nat) : Pc PG R (sub (cd Tryz.f29) [tt,tt,ff,tt,ff,ff,tt,ff,ff,tt,ff,ff,tt,tt]) := mkEnd T_ok (C k) _ c1 z1 (.auto) tr (fun x S K => q1 k (fun o S => K .nrm (Qm z1 o S))  x S) (fun x S K => by kernel_rfl)
def b1 (k : Nat) (J2 : Kt R (LL × (Nat × Nat × Nat) × Int × U1)) (rec : Kt R (LL × (Nat × Nat × Nat) × Int × Int × U1)) (x : (LL × (Nat × Nat × Nat) × Int × Int × U1)) (S : LL) : Option R :=
  ifB (decide (x.2.2.2.1 < (x.1.length : Int))) (rounds (b2 k (fun o14 S => ifB o14.2.2.2.2.1 (idxN o14.2.1.2.2 o14.2.2.1 fun v15 => objAt S o14.2.1.1 fun ty c16 => asOwn 3 1 (c16.getD (o14.2.1.2.1 + v15 * 1) .any) fun l17 => setS (S.set o14.2.1.1 (ty (c16.set (o14.2.1.2.1 + v15 * 1) (.sl 1 l17)))) fun S => app 8 l17 [(.int .i64 o14.2.2.2.1)] fun l18 => idxN o14.2.1.2.2 o14.2.2.1 fun v19 => objAt S o14.2.1.1 fun ty c20 => stO c20 (o14.2.1.2.1 + v19 * 1) [(.own 3 1 l18)] fun c21 => setS (S.set o14.2.1.1 (ty c21)) fun S => q1 k (fun o22 S => rec (o22.1, (o22.2.1.1, o22.2.1.2.1, o22.2.1.2.2), o22.2.2.1, o22.2.2.2.1, ()) S) (o14.1, (o14.2.1.1, o14.2.1.2.1, o14.2.1.2.2), o14.2.2.1, o14.2.2.2.1, ()) S) (q1 k (fun o23 S => rec (o23.1, (o23.2.1.1, o23.2.1.2.1, o23.2.1.2.2), o23.2.2.1, o23.2.2.2.1, ()) S) (o14.1, (o14.2.1.1, o14.2.1.2.1, o14.2.1.2.2), o14.2.2.1, o14.2.2.2.1, ()) S))) k (x.1, (x.2.1.1, x.2.1.2.1, x.2.1.2.2), x.2.2.1, x.2.2.2.1, false, (0 : Int), ()) S) (J2 (x.1, (x.2.1.1, x.2.1.2.1, x.2.1.2.2), x.2.2.1, ()) S)
def L1 (k : Nat) : Pc PG R (.loop (sub (cd Tryz.f29) [tt,tt,ff,tt,ff,ff,tt,ff,ff,tt,ff,ff])) := mkLoop T_ok (C k) _ m1 k (.seq (.seq .auto (.cond .auto (.mask e2 .auto))) (.seq (.block (.seq .auto (.seq (.seq .auto (.block (.piece (L2 k).h))) (.seq .auto (.cond (.own [(5, 2), (10, 2)]) .auto))))) (.piece (Q1 k).h))) ⟨⟨tr, tr, tr⟩, ⟨tr, ⟨tr, (L2 k).ok⟩, tr, tr, tr⟩, (Q1 k).ok⟩ (fun K => b1 k (fun o S => K (.ext 2) (Qm e2 o S))) (fun K rec x S => by kernel_rfl)
def b0 (k : Nat) (J0 : Kt R ((Nat × Nat × Nat) × U1)) (rec : Kt R (LL × (Nat × Nat × Nat) × Int × U1)) (x : (LL × (Nat × Nat × Nat) × Int × U1)) (S : LL) : Option R :=
  ifB (decide (x.2.2.1 < (x.1.length : Int))) (rounds (b1 k (fun o24 S => rec (o24.1, (o24.2.1.1, o24.2.1.2.1, o24.2.1.2.2), (IntKind.wrap .i64 (o24.2.2.1 + (1 : Int))), ()) S)) k (x.1, (x.2.1.1, x.2.1.2.1, x.2.1.2.2), x.2.2.1, (0 : Int), ()) S) (J0 ((x.2.1.1, x.2.1.2.1, x.2.1.2.2), ()) S)
def L0 (k : Nat) : Pc PG R (.loop (sub (cd Tryz.f29) [tt,tt,ff,tt,ff,ff])) := mkLoop T_ok (C k) _ m0 k (.seq (.seq .auto (.cond .auto (.mask e0 .auto))) (.seq (.block (.seq .auto (.block (.piece (L1 k).h)))) .auto)) ⟨⟨tr, tr, tr⟩, ⟨tr, (L1 k).ok⟩, tr⟩ (fun K => b0 k (fun o S => K (.ext 0) (Qm e0 o S))) (fun K rec x S => by kernel_rfl)
def fn0 (k : Nat) (x : (LL × U1)) (S : LL) (K : Kt R (LL × U1)) : Option R :=
  ifB (decide ((x.1.length : Int) = (x.1.length : Int))) (mkN (x.1.length : Int) 24 fun m1 => newObj S (.obj 45 (zeros m1 [.nilsl])) fun i2 S => rounds (b0 k (fun o25 S => objAt S o25.1.1 fun ty c26 => ifB (Nat.beq o25.1.2.1 0 && Nat.beq (o25.1.2.2 * 1) c26.length && Nat.blt 0 1 && Nat.ble o25.1.2.2 9223372036854775807) (setS (S.set o25.1.1 .any) fun S => K ((chunks 1 o25.1.2.2 c26), ()) S) none)) k (x.1, (i2, 0, m1), (0 : Int), ()) S) none
def en0 (k : Nat) : Ent PG R := mkFn T_ok Tryz.func29 ps rs (C k) (.seq .auto (.seq .auto (.seq (.seq .auto (.block (.piece (L0 k).h))) (.seq (.own [(0, 1)]) (.frz 2 (.mask mr .auto)))))) ⟨tr, tr, ⟨tr, (L0 k).ok⟩, tr, tr⟩ (fn0 k) (by kernel_rfl) (by kernel_rfl) (fun x S K => by kernel_rfl)
def fn (k : Nat) (x : (LL × U1)) (S : LL) (K : Kt R (LL × U1)) : Option R := popK rs 6 S (fn0 k x S fun r S => some (resE rs r, S)) K
def en (k : Nat) : Ent PG R := mkPop (rs := rs) (en0 k).ok
end G.smithyardref6_needs
/-! ### 33: smithyard/smithyardref6.all -/
namespace G.smithyardref6_all
abbrev e0 : Mk := n3 (sh (.lf (.osl 1)) (nX (n2 [])))
abbrev m0 : Mk := sI (n2 (sh (.lf (.osl 1)) (sI (nX (n1 [])))))
abbrev mr : Mk := n2 (sL 1 (nX (n3 [])))
abbrev ps : Mk := sI []
abbrev rs : Mk := sL 1 []
def C (k : Nat) : List (Ent PG R) := []
def b0 (k : Nat) (J0 : Kt R ((Nat × Nat × Nat) × U1)) (rec : Kt R (Int × (Nat × Nat × Nat) × Int × U1)) (x : (Int × (Nat × Nat × Nat) × Int × U1)) (S : LL) : Option R :=
  ifB (decide (x.2.2.1 < x.1)) (idxN x.2.1.2.2 x.2.2.1 fun v3 => objAt S x.2.1.1 fun ty c4 => stO c4 (x.2.1.2.1 + v3 * 1) [(.bool true)] fun c5 => setS (S.set x.2.1.1 (ty c5)) fun S => rec (x.1, (x.2.1.1, x.2.1.2.1, x.2.1.2.2), (IntKind.wrap .i64 (x.2.2.1 + (1 : Int))), ()) S) (J0 ((x.2.1.1, x.2.1.2.1, x.2.1.2.2), ()) S)
def L0 (k : Nat) : Pc PG R (.loop (sub (cd Tryz.f33) [tt,tt,ff,tt,ff,ff])) := mkLoop T_ok (C k) _ m0 k (.seq (.seq .auto (.cond .auto (.mask e0 .auto))) (.seq (.block (.own [(3, 1)])) .auto)) ⟨⟨tr, tr, tr⟩, tr, tr⟩ (fun K => b0 k (fun o S => K (.ext 0) (Qm e0 o S))) (fun K rec x S => by kernel_rfl)
def fn0 (k : Nat) (x : (Int × U1)) (S : LL) (K : Kt R (LL × U1)) : Option R :=
  ifB (decide (x.1 = x.1)) (mkN x.1 1 fun m1 => newObj S (.obj 4 (zeros m1 [(.bool false)])) fun i2 S => rounds (b0 k (fun o6 S => objAt S o6.1.1 fun ty c7 => ifB (Nat.beq o6.1.2.1 0 && Nat.beq (o6.1.2.2 * 1) c7.length && Nat.blt 0 1 && Nat.ble o6.1.2.2 9223372036854775807) (setS (S.set o6.1.1 .any) fun S => K ((chunks 1 o6.1.2.2 c7), ()) S) none)) k (x.1, (i2, 0, m1), (0 : Int), ()) S) none
def en0 (k : Nat) : Ent PG R := mkFn T_ok Tryz.func33 ps rs (C k) (.seq .auto (.seq .auto (.seq (.seq .auto (.block (.piece (L0 k).h))) (.seq (.own [(0, 1)]) (.frz 2 (.mask mr .auto)))))) ⟨tr, tr, ⟨tr, (L0 k).ok⟩, tr, tr⟩ (fn0 k) (by kernel_rfl) (by kernel_rfl) (fun x S K => by kernel_rfl)
def fn (k : Nat) (x : (Int × U1)) (S : LL) (K : Kt R (LL × U1)) : Option R := popK rs 6 S (fn0 k x S fun r S => some (resE rs r, S)) K
def en (k : Nat) : Ent PG R := mkPop (rs := rs) (en0 k).ok
end G.smithyardref6_all
/-! ### 63: smithyard/smithyardref6.ready -/
namespace G.smithyardref6_ready_osl
abbrev e0 : Mk := nX (nX [])
abbrev m0 : Mk := sL 1 (sh (.lf (.osl 1)) (n3 (sI (nX (n4 [])))))
abbrev mr : Mk := n4 (sB (nX (n5 [])))
abbrev ps : Mk := sL 1 (sh (.lf (.osl 1)) [])
abbrev rs : Mk := sB []
def C (k : Nat) : List (Ent PG R) := []
def b0 (k : Nat) (J0 : Kt R (U1)) (Jret : Kt R (Bool × U1)) (rec : Kt R (LL × (Nat × Nat × Nat) × Int × U1)) (x : (LL × (Nat × Nat × Nat) × Int × U1)) (S : LL) : Option R :=
  ifB (decide (x.2.2.1 < (x.1.length : Int))) (idxL x.1 x.2.2.1 fun v1 => asInt .i64 (leaf v1 0) fun n2 => idxN x.2.1.2.2 n2 fun v3 => objAt S x.2.1.1 fun ty c4 => ldBool c4 (x.2.1.2.1 + v3 * 1) fun b5 => ifB (!b5) (Jret (false, ()) S) (rec (x.1, (x.2.1.1, x.2.1.2.1, x.2.1.2.2), (IntKind.wrap .i64 (x.2.2.1 + (1 : Int))), ()) S)) (J0 (()) S)
def L0 (k : Nat) : Pc PG R (.loop (sub (cd Tryz.f63) [tt,ff,tt,ff,ff])) := mkLoop T_ok (C k) _ m0 k (.seq (.seq .auto (.cond .auto (.mask e0 .auto))) (.seq (.block (.seq (.own [(6, 1)]) (.cond (.seq .auto (.mask mr .auto)) .auto))) .auto)) ⟨⟨tr, tr, tr⟩, ⟨tr, ⟨tr, tr⟩, tr⟩, tr⟩ (fun K => b0 k (fun o S => K (.ext 0) (Qm e0 o S)) (fun o S => K .ret (Qm mr o S))) (fun K rec x S => by kernel_rfl)
def fn (k : Nat) (x : (LL × (Nat × Nat × Nat) × U1)) (S : LL) (K : Kt R (Bool × U1)) : Option R :=
  rounds (b0 k (fun o6 S => K (true, ()) S) (fun o7 S => K (o7.1, ()) S)) k (x.1, (x.2.1.1, x.2.1.2.1, x.2.1.2.2), (0 : Int), ()) S
def en (k : Nat) : Ent PG R := mkFn T_ok Tryz.func63 ps rs (C k) (.seq .auto (.seq (.seq .auto (.block (.piece (L0 k).h))) (.seq .auto (.mask mr .auto)))) ⟨tr, ⟨tr, (L0 k).ok⟩, tr, tr⟩ (fn k) (by kernel_rfl) (by kernel_rfl) (fun x S K => by kernel_rfl)
end G.smithyardref6_ready_osl
/-! ### 32: smithyard/smithyardref6.ordered -/
namespace G.smithyardref6_ordered
abbrev c0 : Mk := sL 1 (sL 1 (n4 (sh (.lf (.osl 1)) (sO 3 1 (sI (sB (sI (nX (nX (nX (nX (n3 []))))))))))))
abbrev c1 : Mk := sL 1 (sL 1 (n4 (sh (.lf (.osl 1)) (sO 3 1 (sI (sB (sI (nX (nX (n3 (sB (nX (n9 [])))))))))))))
abbrev z0 : Mk := sL 1 (sL 1 (n4 (sh (.lf (.osl 1)) (sO 3 1 (sI (sB (sI (nX (nX (nX (nX (n3 []))))))))))))
abbrev z1 : Mk := sL 1 (sL 1 (n4 (sh (.lf (.osl 1)) (sO 3 1 (sI (sB (sI (nX (nX (nX (nX (n3 []))))))))))))
abbrev e2 : Mk := sL 1 (sL 1 (n4 (sh (.lf (.osl 1)) (sO 3 1 (sI (sB (nX (nX (nX (nX (n4 [])))))))))))
abbrev m0 : Mk := sL 1 (sL 1 (n4 (sh (.lf (.osl 1)) (sO 3 1 (nX (nX (nX (nX (n6 [])))))))))
abbrev m1 : Mk := sL 1 (sL 1 (n4 (sh (.lf (.osl 1)) (sO 3 1 (sI (sB (sI (nX (nX (nX (nX (n3 []))))))))))))
abbrev mr : Mk := n4 (sO 3 1 (sB (nX (nX (nX (nX (n8 [])))))))
abbrev ps : Mk := sL 1 (sL 1 [])
abbrev rs : Mk := sO 3 1 (sB [])
def C (k : Nat) : List (Ent PG R) := [smithyardref6_ready_osl.en k]
def q1 (k : Nat) (Jnrm : Kt R (LL × LL × (Nat × Nat × Nat) × LL × Int × Bool × Int × U1))  (x : (LL × LL × (Nat × Nat × Nat) × LL × Int × Bool × Int × Bool × U1)) (S : LL) : Option R :=
  ifB x.2.2.2.2.2.2.2.1 (idxL x.1 x.2.2.2.2.2.2.1 fun v8 => asSl 1 (leaf v8 0) fun l9 => smithyardref6_ready_osl.fn k (l9, (x.2.2.1.1, x.2.2.1.2.1, x.2.2.1.2.2), ()) S fun r10 S => ifB r10.1 (Jnrm (x.1, x.2.1, (x.2.2.1.1, x.2.2.1.2.1, x.2.2.1.2.2), x.2.2.2.1, x.2.2.2.2.2.2.1, true, x.2.2.2.2.2.2.1, ()) S) (Jnrm (x.1, x.2.1, (x.2.2.1.1, x.2.2.1.2.1, x.2.2.1.2.2), x.2.2.2.1, x.2.2.2.2.1, true, x.2.2.2.2.2.2.1, ()) S)) (Jnrm (x.1, x.2.1, (x.2.2.1.1, x.2.2.1.2.1, x.2.2.1.2.2), x.2.2.2.1, x.2.2.2.2.1, x.2.2.2.2.2.1, x.2.2.2.2.2.2.1, ()) S)
def Q1 (k : Nat) : Pc PG R (sub (cd Tryz.f32) [tt,tt,tt,ff,ff,ff,tt,tt,ff,tt,ff,ff,tt,ff,ff,tt]) := mkEnd T_ok (C k) _ c1 z1 (.cond (.seq .auto (.seq .auto (.cond .auto .auto))) .auto) ⟨⟨tr, tr, tr, tr⟩, tr⟩ (fun x S K => q1 k (fun o S => K .nrm (Qm z1 o S))  x S) (fun x S K => by kernel_rfl)
def q0 (k : Nat) (Jnrm : Kt R (LL × LL × (Nat × Nat × Nat) × LL × Int × Bool × Int × U1))  (x : (LL × LL × (Nat × Nat × Nat) × LL × Int × Bool × Int × U1)) (S : LL) : Option R :=
  Jnrm (x.1, x.2.1, (x.2.2.1.1, x.2.2.1.2.1, x.2.2.1.2.2), x.2.2.2.1, x.2.2.2.2.1, x.2.2.2.2.2.1, (IntKind.wrap .i64 (x.2.2.2.2.2.2.1 + (1 : Int))), ()) S
def Q0 (k : Nat) : Pc PG R (sub (cd Tryz.f32) [tt,tt,tt,ff,ff,ff,tt,tt,ff,tt,ff,ff,tt,tt]) := mkEnd T_ok (C k) _ c0 z0 (.auto) tr (fun x S K => q0 k (fun o S => K .nrm (Qm z0 o S))  x S) (fun x S K => by kernel_rfl)
def b1 (k : Nat) (J2 : Kt R (LL × LL × (Nat × Nat × Nat) × LL × Int × Bool × U1)) (rec : Kt R (LL × LL × (Nat × Nat × Nat) × LL × Int × Bool × Int × U1)) (x : (LL × LL × (Nat × Nat × Nat) × LL × Int × Bool × Int × U1)) (S : LL) : Option R :=
  ifB (decide (x.2.2.2.2.2.2.1 < (x.1.length : Int))) (ifB (decide (x.2.2.2.2.1 < (0 : Int))) (idxL x.2.1 x.2.2.2.2.2.2.1 fun v3 => asBool (leaf v3 0) fun b4 => ifB b4 (idxN x.2.2.1.2.2 x.2.2.2.2.2.2.1 fun v5 => objAt S x.2.2.1.1 fun ty c6 => ldBool c6 (x.2.2.1.2.1 + v5 * 1) fun b7 => q1 k (fun o11 S => q0 k (fun o12 S => rec (o12.1, o12.2.1, (o12.2.2.1.1, o12.2.2.1.2.1, o12.2.2.1.2.2), o12.2.2.2.1, o12.2.2.2.2.1, o12.2.2.2.2.2.1, o12.2.2.2.2.2.2.1, ()) S) (o11.1, o11.2.1, (o11.2.2.1.1, o11.2.2.1.2.1, o11.2.2.1.2.2), o11.2.2.2.1, o11.2.2.2.2.1, o11.2.2.2.2.2.1, o11.2.2.2.2.2.2.1, ()) S) (x.1, x.2.1, (x.2.2.1.1, x.2.2.1.2.1, x.2.2.1.2.2), x.2.2.2.1, x.2.2.2.2.1, x.2.2.2.2.2.1, x.2.2.2.2.2.2.1, (!b7), ()) S) (q1 k (fun o13 S => q0 k (fun o14 S => rec (o14.1, o14.2.1, (o14.2.2.1.1, o14.2.2.1.2.1, o14.2.2.1.2.2), o14.2.2.2.1, o14.2.2.2.2.1, o14.2.2.2.2.2.1, o14.2.2.2.2.2.2.1, ()) S) (o13.1, o13.2.1, (o13.2.2.1.1, o13.2.2.1.2.1, o13.2.2.1.2.2), o13.2.2.2.1, o13.2.2.2.2.1, o13.2.2.2.2.2.1, o13.2.2.2.2.2.2.1, ()) S) (x.1, x.2.1, (x.2.2.1.1, x.2.2.1.2.1, x.2.2.1.2.2), x.2.2.2.1, x.2.2.2.2.1, x.2.2.2.2.2.1, x.2.2.2.2.2.2.1, false, ()) S)) (J2 (x.1, x.2.1, (x.2.2.1.1, x.2.2.1.2.1, x.2.2.1.2.2), x.2.2.2.1, x.2.2.2.2.1, x.2.2.2.2.2.1, ()) S)) (J2 (x.1, x.2.1, (x.2.2.1.1, x.2.2.1.2.1, x.2.2.1.2.2), x.2.2.2.1, x.2.2.2.2.1, x.2.2.2.2.2.1, ()) S)
def L1 (k : Nat) : Pc PG R (.loop (sub (cd Tryz.f32) [tt,tt,tt,ff,ff,ff,tt,tt,ff,tt,ff,ff])) := mkLoop T_ok (C k) _ m1 k (.seq (.seq .auto (.cond .auto (.mask e2 .auto))) (.seq (.block (.seq (.own [(8, 1)]) (.piece (Q1 k).h))) (.piece (Q0 k).h))) ⟨⟨tr, tr, tr⟩, ⟨tr, (Q1 k).ok⟩, (Q0 k).ok⟩ (fun K => b1 k (fun o S => K (.ext 2) (Qm e2 o S))) (fun K rec x S => by kernel_rfl)
def b0 (k : Nat) (Jret : Kt R (LL × Bool × U1)) (rec : Kt R (LL × LL × (Nat × Nat × Nat) × LL × U1)) (x : (LL × LL × (Nat × Nat × Nat) × LL × U1)) (S : LL) : Option R :=
  rounds (b1 k (fun o15 S => ifB (decide (o15.2.2.2.2.1 < (0 : Int))) (Jret (o15.2.2.2.1, (!o15.2.2.2.2.2.1), ()) S) (idxN o15.2.2.1.2.2 o15.2.2.2.2.1 fun v16 => objAt S o15.2.2.1.1 fun ty c17 => stO c17 (o15.2.2.1.2.1 + v16 * 1) [(.bool true)] fun c18 => setS (S.set o15.2.2.1.1 (ty c18)) fun S => app 8 o15.2.2.2.1 [(.int .i64 o15.2.2.2.2.1)] fun l19 => rec (o15.1, o15.2.1, (o15.2.2.1.1, o15.2.2.1.2.1, o15.2.2.1.2.2), l19, ()) S))) k (x.1, x.2.1, (x.2.2.1.1, x.2.2.1.2.1, x.2.2.1.2.2), x.2.2.2.1, (-1 : Int), false, (0 : Int), ()) S
def L0 (k : Nat) : Pc PG R (.loop (sub (cd Tryz.f32) [tt,tt,tt,ff,ff])) := mkLoop T_ok (C k) _ m0 k (.block (.seq .auto (.seq .auto (.seq (.seq .auto (.block (.piece (L1 k).h))) (.seq (.seq .auto (.cond (.seq (.own [(0, 1)]) (.mask mr .auto)) .auto)) (.seq (.own [(3, 1)]) (.own [(0, 1)]))))))) ⟨tr, tr, ⟨tr, (L1 k).ok⟩, ⟨tr, ⟨tr, tr⟩, tr⟩, tr, tr⟩ (fun K => b0 k (fun o S => K .ret (Qm mr o S))) (fun K rec x S => by kernel_rfl)
def fn0 (k : Nat) (x : (LL × LL × U1)) (S : LL) (K : Kt R (LL × Bool × U1)) : Option R :=
  ifB (decide ((x.1.length : Int) = (x.1.length : Int))) (mkN (x.1.length : Int) 1 fun m1 => newObj S (.obj 4 (zeros m1 [(.bool false)])) fun i2 S => rounds (b0 k (fun o20 S => K (o20.1, o20.2.1, ()) S)) k (x.1, x.2.1, (i2, 0, m1), [], ()) S) none
def en0 (k : Nat) : Ent PG R := mkFn T_ok Tryz.func32 ps rs (C k) (.seq .auto (.seq .auto (.seq .auto (.block (.piece (L0 k).h))))) ⟨tr, tr, tr, (L0 k).ok⟩ (fn0 k) (by kernel_rfl) (by kernel_rfl) (fun x S K => by kernel_rfl)
def fn (k : Nat) (x : (LL × LL × U1)) (S : LL) (K : Kt R (LL × Bool × U1)) : Option R := popK rs 6 S (fn0 k x S fun r S => some (resE rs r, S)) K
def en (k : Nat) : Ent PG R := mkPop (rs := rs) (en0 k).ok
end G.smithyardref6_ordered
/-! ### 14: smithyard/smithyardref6.CheckRules -/
namespace G.smithyardref6_CheckRules
abbrev c0 : Mk := sL 8 (n2 (sI (nX (nX (nX (nX (nX (nX (nX (nX (n2 [])))))))))))
abbrev z0 : Mk := sL 8 (n2 (sI (nX (nX (nX (nX (nX (nX (nX (nX (n2 [])))))))))))
abbrev e0 : Mk := sL 8 (nX (nX (nX (nX (nX (nX (nX (nX (n5 [])))))))))
abbrev e2 : Mk := sL 8 (nX (nX (nX (nX (nX (nX (nX (nX (n5 [])))))))))
abbrev e4 : Mk := sL 8 (n4 (sI (nX (nX (nX (nX (nX (nX (nX (nX []))))))))))
abbrev m0 : Mk := sL 8 (n2 (sI (nX (nX (nX (nX (nX (nX (nX (nX (n2 [])))))))))))
abbrev m1 : Mk := sL 8 (n4 (sI (nX (nX (nX (nX (nX (nX (nX (nX []))))))))))
abbrev m2 : Mk := sL 8 (n4 (sI (sI (nX (nX (nX (nX (nX (nX (nX (n9 [])))))))))))
abbrev mr : Mk := n2 (sI (nX (nX (nX (nX (nX (nX (nX (nX (n3 []))))))))))
abbrev ps : Mk := sL 8 []
abbrev rs : Mk := sI []
def C (k : Nat) : List (Ent PG R) := [smithyardref6_needs.en k, smithyardref6_checkRule.en k, smithyardref6_checkOutput.en k, smithyardref6_ordered.en k, smithyardref6_all.en k]
def b2 (k : Nat) (J4 : Kt R (LL × Int × U1)) (Jret : Kt R (Int × U1)) (rec : Kt R (LL × Int × Int × U1)) (x : (LL × Int × Int × U1)) (S : LL) : Option R :=
  idxL x.1 x.2.1 fun v19 => asSl 1 (leaf v19 4) fun l20 => ifB (decide (x.2.2.1 < (l20.length : Int))) (idxL x.1 x.2.1 fun v21 => asSl 1 (leaf v21 4) fun l22 => idxL l22 x.2.2.1 fun v23 => asStr (leaf v23 0) fun s24 => smithyardref6_checkOutput.fn k (x.1, x.2.1, s24, ()) S fun r25 S => ifB (r25.1 != (0 : Int)) (Jret (r25.1, ()) S) (rec (x.1, x.2.1, (IntKind.wrap .i64 (x.2.2.1 + (1 : Int))), ()) S)) (J4 (x.1, x.2.1, ()) S)
def L2 (k : Nat) : Pc PG R (.loop (sub (cd Tryz.f14) [tt,tt,tt,ff,tt,ff,ff,tt,ff,ff,tt,ff,ff])) := mkLoop T_ok (C k) _ m2 k (.seq (.seq .auto (.cond .auto (.mask e4 .auto))) (.seq (.block (.seq .auto (.seq .auto (.cond (.seq .auto (.mask mr .auto)) .auto)))) .auto)) ⟨⟨tr, tr, tr⟩, ⟨tr, tr, ⟨tr, tr⟩, tr⟩, tr⟩ (fun K => b2 k (fun o S => K (.ext 4) (Qm e4 o S)) (fun o S => K .ret (Qm mr o S))) (fun K rec x S => by kernel_rfl)
def q0 (k : Nat) (Jnrm : Kt R (LL × Int × U1))  (x : (LL × Int × U1)) (S : LL) : Option R :=
  Jnrm (x.1, (IntKind.wrap .i64 (x.2.1 + (1 : Int))), ()) S
def Q0 (k : Nat) : Pc PG R (sub (cd Tryz.f14) [tt,tt,ff,tt,ff,ff,tt,tt]) := mkEnd T_ok (C k) _ c0 z0 (.auto) tr (fun x S K => q0 k (fun o S => K .nrm (Qm z0 o S))  x S) (fun x S K => by kernel_rfl)
def b1 (k : Nat) (J2 : Kt R (LL × U1)) (Jret : Kt R (Int × U1)) (rec : Kt R (LL × Int × U1)) (x : (LL × Int × U1)) (S : LL) : Option R :=
  ifB (decide (x.2.1 < (x.1.length : Int))) (rounds (b2 k (fun o26 S => rec (o26.1, (IntKind.wrap .i64 (o26.2.1 + (1 : Int))), ()) S) (fun o27 S => Jret (o27.1, ()) S)) k (x.1, x.2.1, (0 : Int), ()) S) (J2 (x.1, ()) S)
def L1 (k : Nat) : Pc PG R (.loop (sub (cd Tryz.f14) [tt,tt,tt,ff,tt,ff,ff])) := mkLoop T_ok (C k) _ m1 k (.seq (.seq .auto (.cond .auto (.mask e2 .auto))) (.seq (.block (.seq .auto (.block (.piece (L2 k).h)))) .auto)) ⟨⟨tr, tr, tr⟩, ⟨tr, (L2 k).ok⟩, tr⟩ (fun K => b1 k (fun o S => K (.ext 2) (Qm e2 o S)) (fun o S => K .ret (Qm mr o S))) (fun K rec x S => by kernel_rfl)
def b0 (k : Nat) (J0 : Kt R (LL × U1)) (Jret : Kt R (Int × U1)) (rec : Kt R (LL × Int × U1)) (x : (LL × Int × U1)) (S : LL) : Option R :=
  ifB (decide (x.2.1 < (x.1.length : Int))) (idxL x.1 x.2.1 fun v1 => mat 8 v1 fun c2 => asStr (c2.getD 0 .any) fun s3 => asStr (c2.getD 1 .any) fun s4 => asSl 1 (c2.getD 2 .any) fun l5 => asSl 2 (c2.getD 3 .any) fun l6 => asSl 1 (c2.getD 4 .any) fun l7 => asSl 2 (c2.getD 5 .any) fun l8 => asInt .i64 (c2.getD 6 .any) fun n9 => asSl 1 (c2.getD 7 .any) fun l10 => smithyardref6_checkRule.fn k ((s3, s4, l5, l6, l7, l8, n9, l10, ()), ()) S fun r11 S => ifB (r11.1 != (0 : Int)) (Jret (r11.1, ()) S) (ifB (decide (x.2.1 > (0 : Int))) (idxL x.1 x.2.1 fun v12 => asStr (leaf v12 0) fun s13 => idxL x.1 (IntKind.wrap .i64 (x.2.1 - (1 : Int))) fun v14 => asStr (leaf v14 0) fun s15 => ifB (strLt s13 s15 || strEq s13 s15) (Jret ((8 : Int), ()) S) (q0 k (fun o16 S => rec (o16.1, o16.2.1, ()) S) (x.1, x.2.1, ()) S)) (q0 k (fun o17 S => rec (o17.1, o17.2.1, ()) S) (x.1, x.2.1, ()) S))) (J0 (x.1, ()) S)
def L0 (k : Nat) : Pc PG R (.loop (sub (cd Tryz.f14) [tt,tt,ff,tt,ff,ff])) := mkLoop T_ok (C k) _ m0 k (.seq (.seq .auto (.cond .auto (.mask e0 .auto))) (.seq (.block (.seq (.seq .auto (.seq .auto (.cond (.seq .auto (.mask mr .auto)) .auto))) (.seq (.drawn [] [0, 1, 2, 3, 4, 5, 6, 7, 8, 9, 10, 11, 12, 13, 14, 15]) (.cond (.seq .auto (.mask mr .auto)) .auto)))) (.piece (Q0 k).h))) ⟨⟨tr, tr, tr⟩, ⟨⟨tr, tr, ⟨tr, tr⟩, tr⟩, (drawn_an (by kernel_rfl)), ⟨tr, tr⟩, tr⟩, (Q0 k).ok⟩ (fun K => b0 k (fun o S => K (.ext 0) (Qm e0 o S)) (fun o S => K .ret (Qm mr o S))) (fun K rec x S => by kernel_rfl)
def fn (k : Nat) (x : (LL × U1)) (S : LL) (K : Kt R (Int × U1)) : Option R :=
  ifB (decide ((x.1.length : Int) > (500 : Int))) (K ((2 : Int), ()) S) (rounds (b0 k (fun o18 S => rounds (b1 k (fun o28 S => smithyardref6_needs.fn k (o28.1, ()) S fun r29 S => smithyardref6_all.fn k ((o28.1.length : Int), ()) S fun r30 S => smithyardref6_ordered.fn k (r29.1, r30.1, ()) S fun r31 S => ifB (!r31.2.1) (K ((17 : Int), ()) S) (K ((0 : Int), ()) S)) (fun o32 S => K (o32.1, ()) S)) k (o18.1, (0 : Int), ()) S) (fun o33 S => K (o33.1, ()) S)) k (x.1, (0 : Int), ()) S)
def en (k : Nat) : Ent PG R := mkFn T_ok Tryz.func14 ps rs (C k) (.seq .auto (.seq (.seq .auto (.cond (.seq .auto (.mask mr .auto)) .auto)) (.seq (.seq .auto (.block (.piece (L0 k).h))) (.seq (.seq .auto (.block (.piece (L1 k).h))) (.seq (.seq (.own [(6, 1)]) (.seq .auto (.cond (.seq .auto (.mask mr .auto)) .auto))) (.seq .auto (.mask mr .auto))))))) ⟨tr, ⟨tr, ⟨tr, tr⟩, tr⟩, ⟨tr, (L0 k).ok⟩, ⟨tr, (L1 k).ok⟩, ⟨tr, tr, ⟨tr, tr⟩, tr⟩, tr, tr⟩ (fn k) (by kernel_rfl) (by kernel_rfl) (fun x S K => by kernel_rfl)
end G.smithyardref6_CheckRules
/-! ### 12: smithyard/smithyardref6.Edges -/
namespace G.smithyardref6_Edges
abbrev c0 : Mk := sL 8 (n4 (sO 33 2 (sL 1 (sI (sI (nX (nX (nX (nX (n3 []))))))))))
abbrev z0 : Mk := sL 8 (n4 (sO 33 2 (sL 1 (sI (sI (nX (nX (nX (nX (n3 []))))))))))
abbrev e0 : Mk := n5 (sO 33 2 (nX (nX (nX (nX (n6 []))))))
abbrev e2 : Mk := sL 8 (n4 (sO 33 2 (sL 1 (sI (nX (nX (nX (nX (n4 [])))))))))
abbrev m0 : Mk := sL 8 (n4 (sO 33 2 (sL 1 (sI (nX (nX (nX (nX (n4 [])))))))))
abbrev m1 : Mk := sL 8 (n4 (sO 33 2 (sL 1 (sI (sI (nX (nX (nX (nX (n3 []))))))))))
abbrev mr : Mk := n2 (sO 33 2 (sI (nX (nX (nX (nX (n8 [])))))))
abbrev ps : Mk := sL 8 []
abbrev rs : Mk := sO 33 2 (sI [])
def C (k : Nat) : List (Ent PG R) := [smithyardref6_CheckRules.en k, smithyardref6_needs.en k]
def q0 (k : Nat) (Jnrm : Kt R (LL × LL × LL × Int × Int × U1))  (x : (LL × LL × LL × Int × Int × U1)) (S : LL) : Option R :=
  Jnrm (x.1, x.2.1, x.2.2.1, x.2.2.2.1, (IntKind.wrap .i64 (x.2.2.2.2.1 + (1 : Int))), ()) S
def Q0 (k : Nat) : Pc PG R (sub (cd Tryz.f12) [tt,tt,tt,tt,ff,tt,ff,ff,tt,ff,ff,tt,ff,ff,tt,tt]) := mkEnd T_ok (C k) _ c0 z0 (.auto) tr (fun x S K => q0 k (fun o S => K .nrm (Qm z0 o S))  x S) (fun x S K => by kernel_rfl)
def b1 (k : Nat) (J2 : Kt R (LL × LL × LL × Int × U1)) (rec : Kt R (LL × LL × LL × Int × Int × U1)) (x : (LL × LL × LL × Int × Int × U1)) (S : LL) : Option R :=
  idxL x.2.2.1 x.2.2.2.1 fun v3 => asSl 1 (leaf v3 0) fun l4 => ifB (decide (x.2.2.2.2.1 < (l4.length : Int))) (idxL x.1 x.2.2.2.1 fun v5 => asStr (leaf v5 0) fun s6 => idxL x.2.2.1 x.2.2.2.1 fun v7 => asSl 1 (leaf v7 0) fun l8 => idxL l8 x.2.2.2.2.1 fun v9 => asInt .i64 (leaf v9 0) fun n10 => idxL x.1 n10 fun v11 => asStr (leaf v11 0) fun s12 => app 32 x.2.1 [(.agg [(.str s6), (.str s12)])] fun l13 => q0 k (fun o14 S => rec (o14.1, o14.2.1, o14.2.2.1, o14.2.2.2.1, o14.2.2.2.2.1, ()) S) (x.1, l13, x.2.2.1, x.2.2.2.1, x.2.2.2.2.1, ()) S) (J2 (x.1, x.2.1, x.2.2.1, x.2.2.2.1, ()) S)
def L1 (k : Nat) : Pc PG R (.loop (sub (cd Tryz.f12) [tt,tt,tt,tt,ff,tt,ff,ff,tt,ff,ff,tt,ff,ff])) := mkLoop T_ok (C k) _ m1 k (.seq (.seq .auto (.cond .auto (.mask e2 .auto))) (.seq (.block (.drawn [(0, 1)] [0, 1, 2, 3, 4, 5, 6, 7, 8, 9, 10, 11, 12, 13, 14, 15, 16, 17, 18, 19, 20])) (.piece (Q0 k).h))) ⟨⟨tr, tr, tr⟩, (drawn_an (by kernel_rfl)), (Q0 k).ok⟩ (fun K => b1 k (fun o S => K (.ext 2) (Qm e2 o S))) (fun K rec x S => by kernel_rfl)
def b0 (k : Nat) (J0 : Kt R (LL × U1)) (rec : Kt R (LL × LL × LL × Int × U1)) (x : (LL × LL × LL × Int × U1)) (S : LL) : Option R :=
  ifB (decide (x.2.2.2.1 < (x.1.length : Int))) (rounds (b1 k (fun o15 S => rec (o15.1, o15.2.1, o15.2.2.1, (IntKind.wrap .i64 (o15.2.2.2.1 + (1 : Int))), ()) S)) k (x.1, x.2.1, x.2.2.1, x.2.2.2.1, (0 : Int), ()) S) (J0 (x.2.1, ()) S)
def L0 (k : Nat) : Pc PG R (.loop (sub (cd Tryz.f12) [tt,tt,tt,tt,ff,tt,ff,ff])) := mkLoop T_ok (C k) _ m0 k (.seq (.seq .auto (.cond .auto (.mask e0 .auto))) (.seq (.block (.seq .auto (.block (.piece (L1 k).h)))) .auto)) ⟨⟨tr, tr, tr⟩, ⟨tr, (L1 k).ok⟩, tr⟩ (fun K => b0 k (fun o S => K (.ext 0) (Qm e0 o S))) (fun K rec x S => by kernel_rfl)
def fn (k : Nat) (x : (LL × U1)) (S : LL) (K : Kt R (LL × Int × U1)) : Option R :=
  smithyardref6_CheckRules.fn k (x.1, ()) S fun r1 S => ifB (r1.1 != (0 : Int)) (K ([], r1.1, ()) S) (smithyardref6_needs.fn k (x.1, ()) S fun r2 S => rounds (b0 k (fun o16 S => K (o16.1, (0 : Int), ()) S)) k (x.1, [], r2.1, (0 : Int), ()) S)
def en (k : Nat) : Ent PG R := mkFn T_ok Tryz.func12 ps rs (C k) (.seq .auto (.seq (.seq .auto (.seq .auto (.cond (.seq .auto (.mask mr .auto)) .auto))) (.seq .auto (.seq .auto (.seq (.seq .auto (.block (.piece (L0 k).h))) (.seq (.own [(0, 1)]) (.mask mr .auto))))))) ⟨tr, ⟨tr, tr, ⟨tr, tr⟩, tr⟩, tr, tr, ⟨tr, (L0 k).ok⟩, tr, tr⟩ (fn k) (by kernel_rfl) (by kernel_rfl) (fun x S K => by kernel_rfl)
end G.smithyardref6_Edges
/-! ### 13: smithyard/steps.CheckRules -/
namespace G.steps_CheckRules
abbrev mr : Mk := n2 (sI (n8 []))
abbrev ps : Mk := sL 8 []
abbrev rs : Mk := sI []
def C (k : Nat) : List (Ent PG R) := [steps_open.en k]
def fn0 (k : Nat) (x : (LL × U1)) (S : LL) (K : Kt R (Int × U1)) : Option R :=
  steps_open.fn k (x.1, ()) S fun r1 S => K (r1.2.1, ()) S
def en0 (k : Nat) : Ent PG R := mkFn T_ok Tryz.func13 ps rs (C k) (.seq .auto (.seq (.own [(2, 1)]) (.seq .auto (.mask mr .auto)))) ⟨tr, tr, tr, tr⟩ (fn0 k) (by kernel_rfl) (by kernel_rfl) (fun x S K => by kernel_rfl)
def fn (k : Nat) (x : (LL × U1)) (S : LL) (K : Kt R (Int × U1)) : Option R := popK rs 6 S (fn0 k x S fun r S => some (resE rs r, S)) K
def en (k : Nat) : Ent PG R := mkPop (rs := rs) (en0 k).ok
end G.steps_CheckRules
/-! ### 15: slices.Equal[[]smithyard/api.Edge,smithyard/api.Edge] -/
namespace G.slices_Equal_s_api_Edge_api_Edge
abbrev e0 : Mk := nX (nX (n6 []))
abbrev m0 : Mk := sL 2 (sL 2 (nX (sI (sI (nX (n2 []))))))
abbrev mr : Mk := n4 (sB (nX (nX (n1 []))))
abbrev ps : Mk := sL 2 (sL 2 [])
abbrev rs : Mk := sB []
def C (k : Nat) : List (Ent PG R) := []
def b0 (k : Nat) (J0 : Kt R (U1)) (Jret : Kt R (Bool × U1)) (rec : Kt R (LL × LL × Int × Int × U1)) (x : (LL × LL × Int × Int × U1)) (S : LL) : Option R :=
  ifB (decide (x.2.2.2.1 < x.2.2.1)) (idxL x.1 x.2.2.2.1 fun v1 => mat 2 v1 fun c2 => asStr (c2.getD 0 .any) fun s3 => asStr (c2.getD 1 .any) fun s4 => idxL x.2.1 x.2.2.2.1 fun v5 => mat 2 v5 fun c6 => asStr (c6.getD 0 .any) fun s7 => asStr (c6.getD 1 .any) fun s8 => ifB (!((strEq s3 s7 && (strEq s4 s8 && true)) == true)) (Jret (false, ()) S) (rec (x.1, x.2.1, x.2.2.1, (IntKind.wrap .i64 (x.2.2.2.1 + (1 : Int))), ()) S)) (J0 (()) S)
def L0 (k : Nat) : Pc PG R (.loop (sub (cd Tryz.f15) [tt,tt,ff,tt,ff,ff])) := mkLoop T_ok (C k) _ m0 k (.seq .auto (.seq (.cond .auto (.mask e0 .auto)) (.seq (.block (.seq .auto (.seq (.drawn [] [0, 1, 2, 3, 4, 5, 6, 7, 8]) (.cond (.seq .auto (.mask mr .auto)) .auto)))) .auto))) ⟨tr, ⟨tr, tr⟩, ⟨tr, (drawn_an (by kernel_rfl)), ⟨tr, tr⟩, tr⟩, tr⟩ (fun K => b0 k (fun o S => K (.ext 0) (Qm e0 o S)) (fun o S => K .ret (Qm mr o S))) (fun K rec x S => by kernel_rfl)
def fn (k : Nat) (x : (LL × LL × U1)) (S : LL) (K : Kt R (Bool × U1)) : Option R :=
  ifB ((x.1.length : Int) != (x.2.1.length : Int)) (K (false, ()) S) (rounds (b0 k (fun o9 S => K (true, ()) S) (fun o10 S => K (o10.1, ()) S)) k (x.1, x.2.1, (x.1.length : Int), (0 : Int), ()) S)
def en (k : Nat) : Ent PG R := mkFn T_ok Tryz.func15 ps rs (C k) (.seq .auto (.seq (.seq .auto (.cond (.seq .auto (.mask mr .auto)) .auto)) (.seq (.seq .auto (.block (.piece (L0 k).h))) (.seq .auto (.mask mr .auto))))) ⟨tr, ⟨tr, ⟨tr, tr⟩, tr⟩, ⟨tr, (L0 k).ok⟩, tr, tr⟩ (fn k) (by kernel_rfl) (by kernel_rfl) (fun x S K => by kernel_rfl)
end G.slices_Equal_s_api_Edge_api_Edge
/-! ### 64: smithyard/smithyardref5.sameWords -/
namespace G.smithyardref5_sameWords
abbrev e0 : Mk := nX (nX (n6 []))
abbrev m0 : Mk := sL 1 (sL 1 (n3 (sI (nX (nX [])))))
abbrev mr : Mk := n4 (sB (nX (nX (n1 []))))
abbrev ps : Mk := sL 1 (sL 1 [])
abbrev rs : Mk := sB []
def C (k : Nat) : List (Ent PG R) := []
def b0 (k : Nat) (J0 : Kt R (U1)) (Jret : Kt R (Bool × U1)) (rec : Kt R (LL × LL × Int × U1)) (x : (LL × LL × Int × U1)) (S : LL) : Option R :=
  ifB (decide (x.2.2.1 < (x.1.length : Int))) (idxL x.1 x.2.2.1 fun v1 => asStr (leaf v1 0) fun s2 => idxL x.2.1 x.2.2.1 fun v3 => asStr (leaf v3 0) fun s4 => ifB (!(strEq s2 s4)) (Jret (false, ()) S) (rec (x.1, x.2.1, (IntKind.wrap .i64 (x.2.2.1 + (1 : Int))), ()) S)) (J0 (()) S)
def L0 (k : Nat) : Pc PG R (.loop (sub (cd Tryz.f64) [tt,tt,ff,tt,ff,ff])) := mkLoop T_ok (C k) _ m0 k (.seq (.seq .auto (.cond .auto (.mask e0 .auto))) (.seq (.block (.seq (.drawn [] [0, 1, 2, 3, 4, 5, 6, 7, 8]) (.cond (.seq .auto (.mask mr .auto)) .auto))) .auto)) ⟨⟨tr, tr, tr⟩, ⟨(drawn_an (by kernel_rfl)), ⟨tr, tr⟩, tr⟩, tr⟩ (fun K => b0 k (fun o S => K (.ext 0) (Qm e0 o S)) (fun o S => K .ret (Qm mr o S))) (fun K rec x S => by kernel_rfl)
def fn (k : Nat) (x : (LL × LL × U1)) (S : LL) (K : Kt R (Bool × U1)) : Option R :=
  ifB ((x.1.length : Int) != (x.2.1.length : Int)) (K (false, ()) S) (rounds (b0 k (fun o5 S => K (true, ()) S) (fun o6 S => K (o6.1, ()) S)) k (x.1, x.2.1, (0 : Int), ()) S)
def en (k : Nat) : Ent PG R := mkFn T_ok Tryz.func64 ps rs (C k) (.seq .auto (.seq (.seq .auto (.cond (.seq .auto (.mask mr .auto)) .auto)) (.seq (.seq .auto (.block (.piece (L0 k).h))) (.seq .auto (.mask mr .auto))))) ⟨tr, ⟨tr, ⟨tr, tr⟩, tr⟩, ⟨tr, (L0 k).ok⟩, tr, tr⟩ (fn k) (by kernel_rfl) (by kernel_rfl) (fun x S K => by kernel_rfl)
end G.smithyardref5_sameWords
/-! ### 34: smithyard/smithyardref5.SameAction -/
namespace G.smithyardref5_SameAction
abbrev c0 : Mk := n2 (sX [.str, .sl 1, .sl 2, .sl 1, .sl 2, jI] (sX [.str, .sl 1, .sl 2, .sl 1, .sl 2, jI] (nX (nX (nX (nX (nX (nX (nX (nX (nX (nX (n3 [])))))))))))))
abbrev c1 : Mk := n2 (sX [.str, .sl 1, .sl 2, .sl 1, .sl 2, jI] (sX [.str, .sl 1, .sl 2, .sl 1, .sl 2, jI] (n1 (sI (nX (nX (nX (nX (nX (nX (nX (nX (nX (nX (n1 [])))))))))))))))
abbrev z1 : Mk := n2 (sX [.str, .sl 1, .sl 2, .sl 1, .sl 2, jI] (sX [.str, .sl 1, .sl 2, .sl 1, .sl 2, jI] (nX (nX (nX (nX (nX (nX (nX (nX (nX (nX (n3 [])))))))))))))
abbrev e0 : Mk := n2 (sX [.str, .sl 1, .sl 2, .sl 1, .sl 2, jI] (sX [.str, .sl 1, .sl 2, .sl 1, .sl 2, jI] (nX (nX (nX (nX (nX (nX (nX (nX (nX (nX (n3 [])))))))))))))
abbrev e2 : Mk := n2 (sX [.str, .sl 1, .sl 2, .sl 1, .sl 2, jI] (sX [.str, .sl 1, .sl 2, .sl 1, .sl 2, jI] (nX (nX (nX (nX (nX (nX (nX (nX (nX (nX (n3 [])))))))))))))
abbrev e4 : Mk := n2 (sX [.str, .sl 1, .sl 2, .sl 1, .sl 2, jI] (sX [.str, .sl 1, .sl 2, .sl 1, .sl 2, jI] (nX (nX (nX (nX (nX (nX (nX (nX (nX (nX (n3 [])))))))))))))
abbrev m0 : Mk := n2 (sX [.str, .sl 1, .sl 2, .sl 1, .sl 2, jI] (sX [.str, .sl 1, .sl 2, .sl 1, .sl 2, jI] (n1 (sI (nX (nX (nX (nX (nX (nX (nX (nX (nX (nX (n1 [])))))))))))))))
abbrev m1 : Mk := n2 (sX [.str, .sl 1, .sl 2, .sl 1, .sl 2, jI] (sX [.str, .sl 1, .sl 2, .sl 1, .sl 2, jI] (n2 (sI (nX (nX (nX (nX (nX (nX (nX (nX (nX (nX []))))))))))))))
abbrev m2 : Mk := n2 (sX [.str, .sl 1, .sl 2, .sl 1, .sl 2, jI] (sX [.str, .sl 1, .sl 2, .sl 1, .sl 2, jI] (n3 (sI (nX (nX (nX (nX (nX (nX (nX (nX (nX (n9 []))))))))))))))
abbrev mr : Mk := n4 (sB (nX (nX (nX (nX (nX (nX (nX (nX (nX (nX (n2 []))))))))))))
abbrev ps : Mk := sA [.str, .sl 1, .sl 2, .sl 1, .sl 2, jI] (sA [.str, .sl 1, .sl 2, .sl 1, .sl 2, jI] [])
abbrev rs : Mk := sB []
def C (k : Nat) : List (Ent PG R) := [smithyardref5_sameWords.en k]
def b2 (k : Nat) (J4 : Kt R ((BA × LL × LL × LL × LL × Int × U1) × (BA × LL × LL × LL × LL × Int × U1) × U1)) (Jret : Kt R (Bool × U1)) (rec : Kt R ((BA × LL × LL × LL × LL × Int × U1) × (BA × LL × LL × LL × LL × Int × U1) × Int × U1)) (x : ((BA × LL × LL × LL × LL × Int × U1) × (BA × LL × LL × LL × LL × Int × U1) × Int × U1)) (S : LL) : Option R :=
  ifB (decide (x.2.2.1 < (x.1.2.2.2.2.1.length : Int))) (idxL x.1.2.2.2.2.1 x.2.2.1 fun v18 => mat 2 v18 fun c19 => asStr (c19.getD 0 .any) fun s20 => asStr (c19.getD 1 .any) fun s21 => idxL x.2.1.2.2.2.2.1 x.2.2.1 fun v22 => mat 2 v22 fun c23 => asStr (c23.getD 0 .any) fun s24 => asStr (c23.getD 1 .any) fun s25 => ifB (!((strEq s20 s24 && (strEq s21 s25 && true)) == true)) (Jret (false, ()) S) (rec ((x.1.1, x.1.2.1, x.1.2.2.1, x.1.2.2.2.1, x.1.2.2.2.2.1, x.1.2.2.2.2.2.1, ()), (x.2.1.1, x.2.1.2.1, x.2.1.2.2.1, x.2.1.2.2.2.1, x.2.1.2.2.2.2.1, x.2.1.2.2.2.2.2.1, ()), (IntKind.wrap .i64 (x.2.2.1 + (1 : Int))), ()) S)) (J4 ((x.1.1, x.1.2.1, x.1.2.2.1, x.1.2.2.2.1, x.1.2.2.2.2.1, x.1.2.2.2.2.2.1, ()), (x.2.1.1, x.2.1.2.1, x.2.1.2.2.1, x.2.1.2.2.2.1, x.2.1.2.2.2.2.1, x.2.1.2.2.2.2.2.1, ()), ()) S)
def L2 (k : Nat) : Pc PG R (.loop (sub (cd Tryz.f34) [tt,tt,tt,tt,ff,tt,ff,ff])) := mkLoop T_ok (C k) _ m2 k (.seq (.seq .auto (.cond .auto (.mask e4 .auto))) (.seq (.block (.seq (.drawn [] [0, 1, 2, 3, 4, 5, 6, 7, 8, 9, 10]) (.cond (.seq .auto (.mask mr .auto)) .auto))) .auto)) ⟨⟨tr, tr, tr⟩, ⟨(drawn_an (by kernel_rfl)), ⟨tr, tr⟩, tr⟩, tr⟩ (fun K => b2 k (fun o S => K (.ext 4) (Qm e4 o S)) (fun o S => K .ret (Qm mr o S))) (fun K rec x S => by kernel_rfl)
def b1 (k : Nat) (J2 : Kt R ((BA × LL × LL × LL × LL × Int × U1) × (BA × LL × LL × LL × LL × Int × U1) × U1)) (Jret : Kt R (Bool × U1)) (rec : Kt R ((BA × LL × LL × LL × LL × Int × U1) × (BA × LL × LL × LL × LL × Int × U1) × Int × U1)) (x : ((BA × LL × LL × LL × LL × Int × U1) × (BA × LL × LL × LL × LL × Int × U1) × Int × U1)) (S : LL) : Option R :=
  ifB (decide (x.2.2.1 < (x.1.2.2.1.length : Int))) (idxL x.1.2.2.1 x.2.2.1 fun v9 => mat 2 v9 fun c10 => asStr (c10.getD 0 .any) fun s11 => asStr (c10.getD 1 .any) fun s12 => idxL x.2.1.2.2.1 x.2.2.1 fun v13 => mat 2 v13 fun c14 => asStr (c14.getD 0 .any) fun s15 => asStr (c14.getD 1 .any) fun s16 => ifB (!((strEq s11 s15 && (strEq s12 s16 && true)) == true)) (Jret (false, ()) S) (rec ((x.1.1, x.1.2.1, x.1.2.2.1, x.1.2.2.2.1, x.1.2.2.2.2.1, x.1.2.2.2.2.2.1, ()), (x.2.1.1, x.2.1.2.1, x.2.1.2.2.1, x.2.1.2.2.2.1, x.2.1.2.2.2.2.1, x.2.1.2.2.2.2.2.1, ()), (IntKind.wrap .i64 (x.2.2.1 + (1 : Int))), ()) S)) (J2 ((x.1.1, x.1.2.1, x.1.2.2.1, x.1.2.2.2.1, x.1.2.2.2.2.1, x.1.2.2.2.2.2.1, ()), (x.2.1.1, x.2.1.2.1, x.2.1.2.2.1, x.2.1.2.2.2.1, x.2.1.2.2.2.2.1, x.2.1.2.2.2.2.2.1, ()), ()) S)
def L1 (k : Nat) : Pc PG R (.loop (sub (cd Tryz.f34) [tt,tt,tt,ff,tt,ff,ff])) := mkLoop T_ok (C k) _ m1 k (.seq (.seq .auto (.cond .auto (.mask e2 .auto))) (.seq (.block (.seq (.drawn [] [0, 1, 2, 3, 4, 5, 6, 7, 8, 9, 10]) (.cond (.seq .auto (.mask mr .auto)) .auto))) .auto)) ⟨⟨tr, tr, tr⟩, ⟨(drawn_an (by kernel_rfl)), ⟨tr, tr⟩, tr⟩, tr⟩ (fun K => b1 k (fun o S => K (.ext 2) (Qm e2 o S)) (fun o S => K .ret (Qm mr o S))) (fun K rec x S => by kernel_rfl)
def b0 (k : Nat) (J0 : Kt R ((BA × LL × LL × LL × LL × Int × U1) × (BA × LL × LL × LL × LL × Int × U1) × U1)) (Jret : Kt R (Bool × U1)) (rec : Kt R ((BA × LL × LL × LL × LL × Int × U1) × (BA × LL × LL × LL × LL × Int × U1) × Int × U1)) (x : ((BA × LL × LL × LL × LL × Int × U1) × (BA × LL × LL × LL × LL × Int × U1) × Int × U1)) (S : LL) : Option R :=
  ifB (decide (x.2.2.1 < (x.1.2.1.length : Int))) (idxL x.1.2.1 x.2.2.1 fun v1 => asSl 1 (leaf v1 0) fun l2 => idxL x.2.1.2.1 x.2.2.1 fun v3 => asSl 1 (leaf v3 0) fun l4 => smithyardref5_sameWords.fn k (l2, l4, ()) S fun r5 S => ifB (!r5.1) (Jret (false, ()) S) (rec ((x.1.1, x.1.2.1, x.1.2.2.1, x.1.2.2.2.1, x.1.2.2.2.2.1, x.1.2.2.2.2.2.1, ()), (x.2.1.1, x.2.1.2.1, x.2.1.2.2.1, x.2.1.2.2.2.1, x.2.1.2.2.2.2.1, x.2.1.2.2.2.2.2.1, ()), (IntKind.wrap .i64 (x.2.2.1 + (1 : Int))), ()) S)) (J0 ((x.1.1, x.1.2.1, x.1.2.2.1, x.1.2.2.2.1, x.1.2.2.2.2.1, x.1.2.2.2.2.2.1, ()), (x.2.1.1, x.2.1.2.1, x.2.1.2.2.1, x.2.1.2.2.2.1, x.2.1.2.2.2.2.1, x.2.1.2.2.2.2.2.1, ()), ()) S)
def L0 (k : Nat) : Pc PG R (.loop (sub (cd Tryz.f34) [tt,tt,ff,tt,ff,ff])) := mkLoop T_ok (C k) _ m0 k (.seq (.seq .auto (.cond .auto (.mask e0 .auto))) (.seq (.block (.seq (.drawn [] [0, 1, 2, 3, 4, 5, 6, 7, 8, 9, 10, 11]) (.cond (.seq .auto (.mask mr .auto)) .auto))) .auto)) ⟨⟨tr, tr, tr⟩, ⟨(drawn_an (by kernel_rfl)), ⟨tr, tr⟩, tr⟩, tr⟩ (fun K => b0 k (fun o S => K (.ext 0) (Qm e0 o S)) (fun o S => K .ret (Qm mr o S))) (fun K rec x S => by kernel_rfl)
def q1 (k : Nat) (Jnrm : Kt R ((BA × LL × LL × LL × LL × Int × U1) × (BA × LL × LL × LL × LL × Int × U1) × U1)) (Jret : Kt R (Bool × U1)) (x : ((BA × LL × LL × LL × LL × Int × U1) × (BA × LL × LL × LL × LL × Int × U1) × Int × U1)) (S : LL) : Option R :=
  rounds (b0 k (fun o6 S => Jnrm ((o6.1.1, o6.1.2.1, o6.1.2.2.1, o6.1.2.2.2.1, o6.1.2.2.2.2.1, o6.1.2.2.2.2.2.1, ()), (o6.2.1.1, o6.2.1.2.1, o6.2.1.2.2.1, o6.2.1.2.2.2.1, o6.2.1.2.2.2.2.1, o6.2.1.2.2.2.2.2.1, ()), ()) S) (fun o7 S => Jret (o7.1, ()) S)) k ((x.1.1, x.1.2.1, x.1.2.2.1, x.1.2.2.2.1, x.1.2.2.2.2.1, x.1.2.2.2.2.2.1, ()), (x.2.1.1, x.2.1.2.1, x.2.1.2.2.1, x.2.1.2.2.2.1, x.2.1.2.2.2.2.1, x.2.1.2.2.2.2.2.1, ()), x.2.2.1, ()) S
def Q1 (k : Nat) : Pc PG R (sub (cd Tryz.f34) [tt,tt,ff,tt]) := mkEnd T_ok (C k) _ c1 z1 (.block (.piece (L0 k).h)) (L0 k).ok (fun x S K => q1 k (fun o S => K .nrm (Qm z1 o S)) (fun o S => K .ret (Qm mr o S)) x S) (fun x S K => by kernel_rfl)
def q0 (k : Nat) (Jret : Kt R (Bool × U1)) (x : ((BA × LL × LL × LL × LL × Int × U1) × (BA × LL × LL × LL × LL × Int × U1) × U1)) (S : LL) : Option R :=
  q1 k (fun o8 S => rounds (b1 k (fun o17 S => rounds (b2 k (fun o26 S => ifB (strEq o26.1.1 o26.2.1.1) (ifB (o26.1.2.2.2.2.2.1 == o26.2.1.2.2.2.2.2.1) (smithyardref5_sameWords.fn k (o26.1.2.2.2.1, o26.2.1.2.2.2.1, ()) S fun r27 S => Jret (r27.1, ()) S) (Jret (false, ()) S)) (Jret (false, ()) S)) (fun o28 S => Jret (o28.1, ()) S)) k ((o17.1.1, o17.1.2.1, o17.1.2.2.1, o17.1.2.2.2.1, o17.1.2.2.2.2.1, o17.1.2.2.2.2.2.1, ()), (o17.2.1.1, o17.2.1.2.1, o17.2.1.2.2.1, o17.2.1.2.2.2.1, o17.2.1.2.2.2.2.1, o17.2.1.2.2.2.2.2.1, ()), (0 : Int), ()) S) (fun o29 S => Jret (o29.1, ()) S)) k ((o8.1.1, o8.1.2.1, o8.1.2.2.1, o8.1.2.2.2.1, o8.1.2.2.2.2.1, o8.1.2.2.2.2.2.1, ()), (o8.2.1.1, o8.2.1.2.1, o8.2.1.2.2.1, o8.2.1.2.2.2.1, o8.2.1.2.2.2.2.1, o8.2.1.2.2.2.2.2.1, ()), (0 : Int), ()) S) (fun o30 S => Jret (o30.1, ()) S) ((x.1.1, x.1.2.1, x.1.2.2.1, x.1.2.2.2.1, x.1.2.2.2.2.1, x.1.2.2.2.2.2.1, ()), (x.2.1.1, x.2.1.2.1, x.2.1.2.2.1, x.2.1.2.2.2.1, x.2.1.2.2.2.2.1, x.2.1.2.2.2.2.2.1, ()), (0 : Int), ()) S
def Q0 (k : Nat) : Pc PG R (sub (cd Tryz.f34) [tt,tt]) := mkCut T_ok (C k) _ c0 (.seq (.seq .auto (.piece (Q1 k).h)) (.seq (.seq .auto (.block (.piece (L1 k).h))) (.seq (.seq .auto (.block (.piece (L2 k).h))) (.seq .auto (.mask mr .auto))))) ⟨⟨tr, (Q1 k).ok⟩, ⟨tr, (L1 k).ok⟩, ⟨tr, (L2 k).ok⟩, tr, tr⟩ (fun x S K => q0 k (fun o S => K .ret (Qm mr o S)) x S) (fun x S K => by kernel_rfl)
def fn (k : Nat) (x : ((BA × LL × LL × LL × LL × Int × U1) × (BA × LL × LL × LL × LL × Int × U1) × U1)) (S : LL) (K : Kt R (Bool × U1)) : Option R :=
  ifB ((x.1.2.1.length : Int) != (x.2.1.2.1.length : Int)) (K (false, ()) S) (ifB ((x.1.2.2.1.length : Int) != (x.2.1.2.2.1.length : Int)) (K (false, ()) S) (ifB ((x.1.2.2.2.2.1.length : Int) != (x.2.1.2.2.2.2.1.length : Int)) (K (false, ()) S) (q0 k (fun o31 S => K (o31.1, ()) S) ((x.1.1, x.1.2.1, x.1.2.2.1, x.1.2.2.2.1, x.1.2.2.2.2.1, x.1.2.2.2.2.2.1, ()), (x.2.1.1, x.2.1.2.1, x.2.1.2.2.1, x.2.1.2.2.2.1, x.2.1.2.2.2.2.1, x.2.1.2.2.2.2.2.1, ()), ()) S)))
def en (k : Nat) : Ent PG R := mkFn T_ok Tryz.func34 ps rs (C k) (.seq .auto (.seq (.seq .auto (.cond (.seq .auto (.mask mr .auto)) .auto)) (.piece (Q0 k).h))) ⟨tr, ⟨tr, ⟨tr, tr⟩, tr⟩, (Q0 k).ok⟩ (fn k) (by kernel_rfl) (by kernel_rfl) (fun x S K => by kernel_rfl)
end G.smithyardref5_SameAction
/-! ### 20: slices.Equal[[]string,string] -/
namespace G.slices_Equal_s_string_string
abbrev e0 : Mk := nX (nX (n6 []))
abbrev m0 : Mk := sL 1 (sL 1 (nX (sI (sI (nX (n2 []))))))
abbrev mr : Mk := n4 (sB (nX (nX (n1 []))))
abbrev ps : Mk := sL 1 (sL 1 [])
abbrev rs : Mk := sB []
def C (k : Nat) : List (Ent PG R) := []
def b0 (k : Nat) (J0 : Kt R (U1)) (Jret : Kt R (Bool × U1)) (rec : Kt R (LL × LL × Int × Int × U1)) (x : (LL × LL × Int × Int × U1)) (S : LL) : Option R :=
  ifB (decide (x.2.2.2.1 < x.2.2.1)) (idxL x.1 x.2.2.2.1 fun v1 => asStr (leaf v1 0) fun s2 => idxL x.2.1 x.2.2.2.1 fun v3 => asStr (leaf v3 0) fun s4 => ifB (!(strEq s2 s4)) (Jret (false, ()) S) (rec (x.1, x.2.1, x.2.2.1, (IntKind.wrap .i64 (x.2.2.2.1 + (1 : Int))), ()) S)) (J0 (()) S)
def L0 (k : Nat) : Pc PG R (.loop (sub (cd Tryz.f20) [tt,tt,ff,tt,ff,ff])) := mkLoop T_ok (C k) _ m0 k (.seq .auto (.seq (.cond .auto (.mask e0 .auto)) (.seq (.block (.seq .auto (.seq (.drawn [] [0, 1, 2, 3, 4, 5, 6, 7, 8]) (.cond (.seq .auto (.mask mr .auto)) .auto)))) .auto))) ⟨tr, ⟨tr, tr⟩, ⟨tr, (drawn_an (by kernel_rfl)), ⟨tr, tr⟩, tr⟩, tr⟩ (fun K => b0 k (fun o S => K (.ext 0) (Qm e0 o S)) (fun o S => K .ret (Qm mr o S))) (fun K rec x S => by kernel_rfl)
def fn (k : Nat) (x : (LL × LL × U1)) (S : LL) (K : Kt R (Bool × U1)) : Option R :=
  ifB ((x.1.length : Int) != (x.2.1.length : Int)) (K (false, ()) S) (rounds (b0 k (fun o5 S => K (true, ()) S) (fun o6 S => K (o6.1, ()) S)) k (x.1, x.2.1, (x.1.length : Int), (0 : Int), ()) S)
def en (k : Nat) : Ent PG R := mkFn T_ok Tryz.func20 ps rs (C k) (.seq .auto (.seq (.seq .auto (.cond (.seq .auto (.mask mr .auto)) .auto)) (.seq (.seq .auto (.block (.piece (L0 k).h))) (.seq .auto (.mask mr .auto))))) ⟨tr, ⟨tr, ⟨tr, tr⟩, tr⟩, ⟨tr, (L0 k).ok⟩, tr, tr⟩ (fn k) (by kernel_rfl) (by kernel_rfl) (fun x S K => by kernel_rfl)
end G.slices_Equal_s_string_string
/-! ### 16: smithyard/smithyardref6.SameRules -/
namespace G.smithyardref6_SameRules
abbrev c0 : Mk := sL 8 (sL 8 (n3 (sI (nX (nX (nX (nX (nX []))))))))
abbrev z0 : Mk := sL 8 (sL 8 (n3 (sI (nX (nX (nX (nX (nX []))))))))
abbrev e0 : Mk := nX (nX (nX (nX (nX (n6 [])))))
abbrev m0 : Mk := sL 8 (sL 8 (n3 (sI (nX (nX (nX (nX (nX []))))))))
abbrev mr : Mk := n4 (sB (nX (nX (nX (nX (nX (n1 [])))))))
abbrev ps : Mk := sL 8 (sL 8 [])
abbrev rs : Mk := sB []
def C (k : Nat) : List (Ent PG R) := [slices_Equal_s_string_string.en k, smithyardref5_SameAction.en k]
def q0 (k : Nat) (Jnrm : Kt R (LL × LL × Int × U1))  (x : (LL × LL × Int × U1)) (S : LL) : Option R :=
  Jnrm (x.1, x.2.1, (IntKind.wrap .i64 (x.2.2.1 + (1 : Int))), ()) S
def Q0 (k : Nat) : Pc PG R (sub (cd Tryz.f16) [tt,tt,ff,tt,ff,ff,tt,tt]) := mkEnd T_ok (C k) _ c0 z0 (.auto) tr (fun x S K => q0 k (fun o S => K .nrm (Qm z0 o S))  x S) (fun x S K => by kernel_rfl)
def b0 (k : Nat) (J0 : Kt R (U1)) (Jret : Kt R (Bool × U1)) (rec : Kt R (LL × LL × Int × U1)) (x : (LL × LL × Int × U1)) (S : LL) : Option R :=
  ifB (decide (x.2.2.1 < (x.1.length : Int))) (idxL x.1 x.2.2.1 fun v1 => asStr (leaf v1 0) fun s2 => idxL x.2.1 x.2.2.1 fun v3 => asStr (leaf v3 0) fun s4 => ifB (!(strEq s2 s4)) (Jret (false, ()) S) (idxL x.1 x.2.2.1 fun v5 => mat 8 v5 fun c6 => asStr (c6.getD 1 .any) fun s7 => asSl 1 (c6.getD 2 .any) fun l8 => asSl 2 (c6.getD 3 .any) fun l9 => asSl 1 (c6.getD 4 .any) fun l10 => asSl 2 (c6.getD 5 .any) fun l11 => asInt .i64 (c6.getD 6 .any) fun n12 => idxL x.2.1 x.2.2.1 fun v13 => mat 8 v13 fun c14 => asStr (c14.getD 1 .any) fun s15 => asSl 1 (c14.getD 2 .any) fun l16 => asSl 2 (c14.getD 3 .any) fun l17 => asSl 1 (c14.getD 4 .any) fun l18 => asSl 2 (c14.getD 5 .any) fun l19 => asInt .i64 (c14.getD 6 .any) fun n20 => smithyardref5_SameAction.fn k ((s7, l8, l9, l10, l11, n12, ()), (s15, l16, l17, l18, l19, n20, ()), ()) S fun r21 S => ifB (!r21.1) (Jret (false, ()) S) (idxL x.1 x.2.2.1 fun v22 => asSl 1 (leaf v22 7) fun l23 => idxL x.2.1 x.2.2.1 fun v24 => asSl 1 (leaf v24 7) fun l25 => slices_Equal_s_string_string.fn k (l23, l25, ()) S fun r26 S => ifB (!r26.1) (Jret (false, ()) S) (q0 k (fun o27 S => rec (o27.1, o27.2.1, o27.2.2.1, ()) S) (x.1, x.2.1, x.2.2.1, ()) S)))) (J0 (()) S)
def L0 (k : Nat) : Pc PG R (.loop (sub (cd Tryz.f16) [tt,tt,ff,tt,ff,ff])) := mkLoop T_ok (C k) _ m0 k (.seq (.seq .auto (.cond .auto (.mask e0 .auto))) (.seq (.block (.seq (.drawn [] [0, 1, 2, 3, 4, 5, 6, 7, 8, 9, 10, 11, 12, 13, 14, 15, 16, 17, 18, 19, 20, 21, 22, 23, 24, 25, 26, 27, 28, 29, 30, 31, 32, 33, 34, 35, 36, 37, 38]) (.cond (.seq .auto (.mask mr .auto)) .auto))) (.piece (Q0 k).h))) ⟨⟨tr, tr, tr⟩, ⟨(drawn_an (by kernel_rfl)), ⟨tr, tr⟩, tr⟩, (Q0 k).ok⟩ (fun K => b0 k (fun o S => K (.ext 0) (Qm e0 o S)) (fun o S => K .ret (Qm mr o S))) (fun K rec x S => by kernel_rfl)
def fn (k : Nat) (x : (LL × LL × U1)) (S : LL) (K : Kt R (Bool × U1)) : Option R :=
  ifB ((x.1.length : Int) != (x.2.1.length : Int)) (K (false, ()) S) (rounds (b0 k (fun o28 S => K (true, ()) S) (fun o29 S => K (o29.1, ()) S)) k (x.1, x.2.1, (0 : Int), ()) S)
def en (k : Nat) : Ent PG R := mkFn T_ok Tryz.func16 ps rs (C k) (.seq .auto (.seq (.seq .auto (.cond (.seq .auto (.mask mr .auto)) .auto)) (.seq (.seq .auto (.block (.piece (L0 k).h))) (.seq .auto (.mask mr .auto))))) ⟨tr, ⟨tr, ⟨tr, tr⟩, tr⟩, ⟨tr, (L0 k).ok⟩, tr, tr⟩ (fn k) (by kernel_rfl) (by kernel_rfl) (fun x S K => by kernel_rfl)
end G.smithyardref6_SameRules
end Go.Lm
end
