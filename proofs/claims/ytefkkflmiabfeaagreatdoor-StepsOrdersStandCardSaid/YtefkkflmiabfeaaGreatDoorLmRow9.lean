/- For all rules and strings that come in, the law StepsOrdersStand answers true and leaves it as it was. Conditions: the row's own (what comes in fits its type, each list and string within the model's size, the listed library variables start as the text lays them); the card ties those variables to the pruned copy of the project. -/
import Derived.Test.YtefkkflmiabfeaaGreatDoorLf
import Derived.Test.YtefkkflmiabfeaaGreatDoorCards
import Derived.Test.YtefkkflmiabfeaaGreatDoorTie
import Derived.ProofKit
import Derived.OpenShut
import Derived.LaidMore
import Derived.Lay
import Derived.Lib.LaidTab
import Derived.SevenTiedAt
import Derived.Stop.Joined
set_option linter.unusedVariables false
set_option linter.unusedSimpArgs false
namespace Go.Proofs.YtefkkflmiabfeaaGreatDoor
open Go.ChangeShapes Go.WideShapes Go.ChangeAt Go.RowKit Go.Lm
abbrev tyVar : Ty := .cons .str (.cons .str .nil)
abbrev tyAct : Ty := .cons .str (.cons (.sl 1 24 (.sl 1 16 .str)) (.cons (.sl 2 32 tyVar) (.cons (.sl 1 16 .str) (.cons (.sl 2 32 tyVar) (.cons (.int .i64) .nil)))))
abbrev tyRule : Ty := .cons .str (.cons tyAct (.cons (.sl 1 16 .str) .nil))
abbrev tyRules : Ty := .sl 8 160 tyRule
abbrev tyStrs : Ty := .sl 1 16 .str
theorem ty0 : tyOf Tryz.prog 8 22 = some tyRules := by kernel_rfl
theorem ty1 : tyOf Tryz.prog 8 23 = some tyStrs := by kernel_rfl
theorem strs_of (y : tyStrs.T) : tyStrs.arg y = .sl 1 ((y : List ByteArray).map .str) := rfl
def varOfT (x : tyVar.T) : AVar := (x.1,x.2.1)
def actOf (x : tyAct.T) : Lm.Act := ⟨x.1,(x.2.1 : List (List ByteArray)),(x.2.2.1 : List tyVar.T).map varOfT,(x.2.2.2.1 : List ByteArray),(x.2.2.2.2.1 : List tyVar.T).map varOfT,x.2.2.2.2.2.1⟩
theorem vars_of (l : List tyVar.T) : l.map tyVar.elem = (l.map varOfT).map varL := by rw [List.map_map]; rfl
theorem act_of (x : tyAct.T) : tyAct.arg x = .agg [.str (actOf x).tool,.sl 1 ((actOf x).cmds.map cmdL),.sl 2 ((actOf x).vars.map varL),.sl 1 ((actOf x).outs.map .str),.sl 2 ((actOf x).needs.map varL),.int .i64 (actOf x).time] := by
 have e1 := vars_of x.2.2.1
 have e2 := vars_of x.2.2.2.2.1
 show LV.agg [.str x.1,.sl 1 ((x.2.1 : List (List ByteArray)).map cmdL),.sl 2 ((x.2.2.1 : List tyVar.T).map tyVar.elem),.sl 1 ((x.2.2.2.1 : List ByteArray).map .str),.sl 2 ((x.2.2.2.2.1 : List tyVar.T).map tyVar.elem),.int .i64 x.2.2.2.2.2.1] = _
 rw [e1,e2]
 rfl
theorem act_ok {x : tyAct.T} (h : tyAct.ok x) : ActOk (actOf x) ∧ ActFit (actOf x) := by
 have h1 : x.1.size ≤ 140737488351232 := h.1
 have h2 : (x.2.1 : List (List ByteArray)).length * 24 ≤ 140737488351232 := h.2.1.1
 have h3 : (x.2.2.1 : List tyVar.T).length * 32 ≤ 140737488351232 := h.2.2.1.1
 have h4 : (x.2.2.2.1 : List ByteArray).length * 16 ≤ 140737488351232 := h.2.2.2.1.1
 have h5 : (x.2.2.2.2.1 : List tyVar.T).length * 32 ≤ 140737488351232 := h.2.2.2.2.1.1
 have l2 : (actOf x).vars.length = (x.2.2.1 : List tyVar.T).length := List.length_map _
 have l4 : (actOf x).needs.length = (x.2.2.2.2.1 : List tyVar.T).length := List.length_map _
 have hv : ∀ l : List tyVar.T,(∀ y ∈ l,tyVar.ok y) → ∀ z ∈ l.map varOfT,z.1.size ≤ 140737488355328 := fun l hl z hz => by
  obtain ⟨y,hy,rfl⟩ := List.mem_map.1 hz
  have h6 : y.1.size ≤ 140737488351232 := (hl y hy).1
  show y.1.size ≤ _
  omega
 refine ⟨⟨by show x.1.size ≤ _; omega,fun c hc w hw => ?_,hv _ h.2.2.1.2.2,fun w hw => ?_,hv _ h.2.2.2.2.1.2.2⟩,⟨h2,fun c hc => ?_,by omega,h4,by omega⟩⟩
 ·have h6 : w.size ≤ 140737488351232 := (h.2.1.2.2 c hc).2.2 w hw
  omega
 ·have h6 : w.size ≤ 140737488351232 := h.2.2.2.1.2.2 w hw
  omega
 ·exact (h.2.1.2.2 c hc).1
def ruleOfT (x : tyRule.T) : Lm.Rule := ⟨x.1,actOf x.2.1,(x.2.2.1 : List ByteArray)⟩
theorem rule_of (x : tyRule.T) : tyRule.elem x = (ruleOfT x).lv := by
 have e1 := vars_of x.2.1.2.2.1
 have e2 := vars_of x.2.1.2.2.2.2.1
 show LV.agg [.str x.1,.str x.2.1.1,.sl 1 ((x.2.1.2.1 : List (List ByteArray)).map cmdL),.sl 2 ((x.2.1.2.2.1 : List tyVar.T).map tyVar.elem),.sl 1 ((x.2.1.2.2.2.1 : List ByteArray).map .str),.sl 2 ((x.2.1.2.2.2.2.1 : List tyVar.T).map tyVar.elem),.int .i64 x.2.1.2.2.2.2.2.1,.sl 1 ((x.2.2.1 : List ByteArray).map .str)] = _
 rw [e1,e2]
 rfl
def rulesOf (x : tyRules.T) : List Lm.Rule := (x : List tyRule.T).map ruleOfT
theorem rules_of (x : tyRules.T) : tyRules.arg x = .sl 8 ((rulesOf x).map Lm.Rule.lv) := by
 have e : ∀ l : List tyRule.T,l.map tyRule.elem = (l.map ruleOfT).map Lm.Rule.lv := fun l => by
  rw [List.map_map]
  exact List.map_congr_left fun y _ => rule_of y
 exact congrArg (LV.sl 8) (e x)
theorem law_ok {x : tyRules.T} (h : tyRules.ok x) : LawOk (rulesOf x) := by
 have h1 : (x : List tyRule.T).length * 160 ≤ 140737488351232 := h.1
 have hl : (rulesOf x).length = (x : List tyRule.T).length := List.length_map _
 have hr : ∀ r ∈ rulesOf x,(ActOk r.act ∧ ActFit r.act) ∧ r.ins.length * 16 ≤ 140737488351232 ∧ ∀ p ∈ r.ins,p.size ≤ 140737488351232 := fun r hm => by
  obtain ⟨y,hy,rfl⟩ := List.mem_map.1 hm
  have hy := h.2.2 y hy
  exact ⟨act_ok hy.2.1,hy.2.2.1.1,hy.2.2.1.2.2⟩
 refine ⟨⟨by omega,fun r hm => ⟨(hr r hm).1.1,?_⟩,fun r hm => ?_,fun r hm p hp => ?_⟩,by omega,fun r hm => ⟨(hr r hm).1.2,(hr r hm).2.1⟩,fun r hm => ⟨fit_len (hr r hm).1.2,fun c hc => ?_,?_⟩⟩
 ·have := (hr r hm).2.1; omega
 ·have := (hr r hm).1.2.outs; omega
 ·have := (hr r hm).2.2 p hp; omega
 ·have := (hr r hm).1.2.cmd c hc; omega
 ·have := (hr r hm).2.1; omega
theorem walk (x : tyRules.T) (hx : tyRules.ok x) (y : tyStrs.T) (hy : tyStrs.ok y) (v v' : Value) (W : World) (h0 : Rep (Cx.start W) (tyRules.arg x) v []) (h1 : Rep (Cx.start W) (tyStrs.arg y) v' []) :
  Calls Tryz.prog 3 #[v,v'] W fun e w' => e = .returned (.bool true) ∧ RowKit.Below W.heap.size W w' := by
 have hL := law_ok hx
 have hy1 : (y : List ByteArray).length * 16 ≤ 140737488351232 := hy.1
 refine start_callsG (S := []) (S' := []) (v := .bool true) (r := .bool true) (G.smithyardlaw6_StepsOrdersStand.en 281474976710656).ok (args := [tyRules.arg x,tyStrs.arg y]) rfl (fun i hi => ?_) ⟨fun id hid => absurd hid (Nat.not_lt_zero _),fun id id' h1 h2 hne => absurd h1 (Nat.not_lt_zero _)⟩ ?_ ⟨Nat.le_refl _,fun _ _ => rfl⟩ rfl
 ·rcases (show i = 0 ∨ i = 1 by simp only [List.length_cons,List.length_nil] at hi; omega) with rfl | rfl
  ·exact h0
  ·exact h1
 ·rw [rules_of x,strs_of y]
  exact law9 (Nat.le_refl _) (rulesOf x) hL.ok (y : List ByteArray) (Nat.le_trans (Nat.le_mul_of_pos_right _ (by decide)) (Nat.le_trans hy1 (by decide))) [] fun r S => some (resE G.smithyardlaw6_StepsOrdersStand.rs r,S)
theorem own : ownKnob Tryz.prog.godebug = none := by kernel_rfl
theorem laidOut : laidOutB Tryz.prog = true := by kernel_rfl
set_option maxRecDepth 100000 in
theorem lifted (os : Os) (started : os.Started) (H : Type) (enc : TypeId × Value → H) :
  ReturnsInHanded {} Tryz.checked os 3 .any (fun w args => (Rows.stepsOrdersStandSpec.pre enc Tryz.prog Tryz.f3 Rows.stepsOrdersStandRow.domain false w args ∧ laidMetH Tryz.prog Rows.stepsOrdersStandRow.laid w) ∧ sizedMet enc Tryz.prog Tryz.f3 (OpenSpec.ofChange Rows.stepsOrdersStandSpec) false w args)
   (Rows.stepsOrdersStandSpec.post enc Tryz.prog Tryz.f3 false true false false) := by
 refine returnsInHanded_of_change_and (C := Tryz.checked) (X := fun w _ => laidMetH Tryz.prog Rows.stepsOrdersStandRow.laid w) (fun _ _ _ hh h => h.of_heap hh) own started (by kernel_rfl) Tryz.func3
  (ChangeSpec.witness_shaped (enc := enc) (C := Tryz.checked) (os := os) (X := fun w _ => laidMetH Tryz.prog Rows.stepsOrdersStandRow.laid w) false (World.laidAll Tryz.prog os Rows.stepsOrdersStandRow.laid) #[.slice none 0 0,.slice none 0 0] 8 (World.laidAll_os _ _ _)
   (World.shaped_of_ZipB (by kernel_rfl) (by kernel_rfl)) (by kernel_rfl) (by kernel_rfl) (by kernel_rfl)
   (by rw [MakeChecks.laidMetH_plain _ _ _ (by kernel_rfl)]; exact laidMet_laidAll _ (by kernel_rfl) (by kernel_rfl))) ?_
 intro W base args ds gs before hval0 hW _ hsz0 hX1 hX2
 have hsz : (DataW.weightsEach Tryz.prog (Tryz.f3.params.toList ++ Rows.stepsOrdersStandSpec.plain.varTypes Tryz.prog) (ds ++ gs)).all (· ≤ reachBytes) = true := hsz0
 have hval : ∀ (j : Nat) t v,Tryz.f3.params[j]? = some t → args[j]? = some v → Value.okWide Tryz.prog W .any base t v := hval0
 have hW' := hW
 obtain ⟨p,q,hA0,hV,rfl,hfz,hnd⟩ := hW
 have hA : DataW.TrodAll enc Tryz.prog W 0 (fun _ => true) true Tryz.f3.params.toList args.toList ds p := hA0
 rw [Tryz.params3] at hA hval hsz
 obtain ⟨v0,v1,d0,d1,p0,p1,hargs,rfl,rfl,h0,h1⟩ := trodAll_two hA
 obtain rfl : args = #[v0,v1] := by cases args; simp_all
 obtain ⟨rfl,rfl⟩ := trodVars_none hV
 obtain ⟨x0,ok0,r0⟩ := arg_ok ty0 (hval 0 22 v0 rfl rfl) h0 (sized_each hsz (j := 0) rfl rfl)
 obtain ⟨x1,ok1,r1⟩ := arg_ok ty1 (hval 1 23 v1 rfl rfl) h1 (sized_each hsz (j := 1) rfl rfl)
 have lt1 : ∀ x ∈ p1,x.block < W.heap.size := by obtain ⟨m,hm⟩ := h1; exact DataW.trod_lt m _ _ _ hm
 have lt0 : ∀ x ∈ p0,x.block < W.heap.size := by obtain ⟨m,hm⟩ := h0; exact DataW.trod_lt m _ _ _ hm
 clear hA0 hval0 hsz0 hsz
 refine (walk x0 ok0 x1 ok1 v0 v1 W r0 r1).mono fun e W' ⟨he,bel⟩ => ?_
 subst he
 exact ⟨_,rfl,_,_,_,[],_,[],hW',trodAll_mk1 (shut_bool Tryz.underlying4 _),trodAll_mk2 (Below.trod laidOut (by kernel_rfl) (of_decide_eq_true (by kernel_rfl)) h0 bel lt0) (Below.trod laidOut (by kernel_rfl) (of_decide_eq_true (by kernel_rfl)) h1 bel lt1),rfl,bel.frame _,fun h => by cases h⟩
theorem holds : Rows.StepsOrdersStandSaid :=
 OpenClaim.holds_of_wide 3 Tryz.f3 rfl rfl rfl rfl rfl rfl rfl ⟨rfl,rfl,rfl,rfl,rfl⟩ rfl rfl rfl rfl rfl (by kernel_rfl) Tryz.func3 (by kernel_rfl)
  (of_decide_eq_true (by kernel_rfl)) (by unfold Func.isWrapper; first | (rw [if_pos (by decide +kernel)]; kernel_rfl) | (rw [if_neg (by decide +kernel)]; exact ⟨rfl,rfl⟩))
  (fun os started H enc _ => lifted os started H enc)
theorem card_holds : Rows.StepsOrdersStandCardSaid :=
 Claim7.holds_tied_plain_at .later [] [.data,.pinned] true (true,"2559a50f8a3ca7973c671f7950b78ee00bc19c3b0efb620c241daa53af86ff01") true holds (fun _ h => by cases h) (by kernel_rfl) (fun _ h => by cases h) stepsOrdersStand_row_tie rfl ⟨rfl,rfl⟩ (by kernel_rfl) rfl
  (fun f fn hf hfn => by
   obtain rfl : f = 3 := Option.some.inj ((show Tryz.prog.funcNamed "smithyard/smithyardlaw6.StepsOrdersStand" = some 3 by kernel_rfl).symm.trans hf) |>.symm
   obtain rfl : fn = Tryz.f3 := (Option.some.inj (Tryz.func3.symm.trans hfn)).symm
   exact ⟨by kernel_rfl,fun j t ht => by
    rw [Tryz.params3] at ht
    have hm : t ∈ [22,23] := by simpa using Array.mem_of_getElem? ht
    have hall : ([22,23].all fun u => !Tryz.prog.wantsStandIn u) = true := by kernel_rfl
    exact (show Tryz.prog.wantsStandIn t = false by simpa using List.all_eq_true.1 hall t hm)⟩)
  (by kernel_rfl)
#print axioms card_holds
end Go.Proofs.YtefkkflmiabfeaaGreatDoor
