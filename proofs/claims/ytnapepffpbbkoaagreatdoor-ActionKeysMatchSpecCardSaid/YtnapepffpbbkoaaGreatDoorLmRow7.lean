/- For every action, text and list of looks that come in, the law ActionKeysMatchSpec answers true and leaves them as they were. Conditions: the row's own (what comes in fits its type, each list and string within the model's size, the listed library variables start as the text lays them); the card ties those variables to the pruned copy of the project. -/
import Derived.Test.YtnapepffpbbkoaaGreatDoorLmT
import Derived.Test.YtnapepffpbbkoaaGreatDoorLmW
import Derived.Test.YtnapepffpbbkoaaGreatDoorCards
import Derived.Test.YtnapepffpbbkoaaGreatDoorTie
import Derived.ProofKit
import Derived.OpenShut
import Derived.LaidMore
import Derived.Lay
import Derived.Lib.LaidTab
import Derived.SevenTiedAt
import Derived.Stop.Joined
namespace Go.Proofs.YtnapepffpbbkoaaGreatDoor
open Go.ChangeShapes Go.WideShapes Go.ChangeAt Go.RowKit Go.Lm

abbrev tyVar : Ty := .cons .str (.cons .str .nil)
abbrev tyAct : Ty := .cons .str (.cons (.sl 1 24 (.sl 1 16 .str)) (.cons (.sl 2 32 tyVar) (.cons (.sl 1 16 .str) (.cons (.sl 2 32 tyVar) (.cons (.int .i64) .nil)))))
abbrev tyLook : Ty := .cons .str (.cons .str (.cons .bool .nil))
theorem ty1 : tyOf Tryz.prog 6 9 = some .str := by kernel_rfl
theorem ty2 : tyOf Tryz.prog 6 23 = some (.sl 3 40 tyLook) := by kernel_rfl
def lookOf (x : tyLook.T) : Look := ⟨x.1, x.2.1, x.2.2.1⟩
theorem looks_of (l : List tyLook.T) : l.map tyLook.elem = (l.map lookOf).map Look.lv := by rw [List.map_map]; rfl
theorem looks_arg (l : List tyLook.T) : (Ty.sl 3 40 tyLook).arg l = .sl 3 ((l.map lookOf).map Look.lv) := by
  rw [← looks_of]; rfl
theorem ty0 : tyOf Tryz.prog 6 42 = some tyAct := by kernel_rfl
def varOfT (x : tyVar.T) : AVar := (x.1, x.2.1)
def actOf (x : tyAct.T) : Lm.Act := ⟨x.1, (x.2.1 : List (List ByteArray)), (x.2.2.1 : List tyVar.T).map varOfT, (x.2.2.2.1 : List ByteArray), (x.2.2.2.2.1 : List tyVar.T).map varOfT, x.2.2.2.2.2.1⟩
theorem vars_of (l : List tyVar.T) : l.map tyVar.elem = (l.map varOfT).map varL := by rw [List.map_map]; rfl
theorem act_of (x : tyAct.T) : tyAct.arg x = .agg [.str (actOf x).tool, .sl 1 ((actOf x).cmds.map cmdL), .sl 2 ((actOf x).vars.map varL), .sl 1 ((actOf x).outs.map .str), .sl 2 ((actOf x).needs.map varL), .int .i64 (actOf x).time] := by
  have e1 := vars_of x.2.2.1
  have e2 := vars_of x.2.2.2.2.1
  show LV.agg [.str x.1, .sl 1 ((x.2.1 : List (List ByteArray)).map cmdL), .sl 2 ((x.2.2.1 : List tyVar.T).map tyVar.elem), .sl 1 ((x.2.2.2.1 : List ByteArray).map .str), .sl 2 ((x.2.2.2.2.1 : List tyVar.T).map tyVar.elem), .int .i64 x.2.2.2.2.2.1] = _
  rw [e1, e2]
  rfl
theorem act_ok {x : tyAct.T} (h : tyAct.ok x) : ActOk (actOf x) ∧ ActFit (actOf x) := by
  have h1 : x.1.size ≤ 140737488351232 := h.1
  have h2 : (x.2.1 : List (List ByteArray)).length * 24 ≤ 140737488351232 := h.2.1.1
  have h3 : (x.2.2.1 : List tyVar.T).length * 32 ≤ 140737488351232 := h.2.2.1.1
  have h4 : (x.2.2.2.1 : List ByteArray).length * 16 ≤ 140737488351232 := h.2.2.2.1.1
  have h5 : (x.2.2.2.2.1 : List tyVar.T).length * 32 ≤ 140737488351232 := h.2.2.2.2.1.1
  have l2 : (actOf x).vars.length = (x.2.2.1 : List tyVar.T).length := List.length_map _
  have l4 : (actOf x).needs.length = (x.2.2.2.2.1 : List tyVar.T).length := List.length_map _
  have hv : ∀ l : List tyVar.T, (∀ y ∈ l, tyVar.ok y) → ∀ z ∈ l.map varOfT, z.1.size ≤ 140737488355328 := fun l hl z hz => by
    obtain ⟨y, hy, rfl⟩ := List.mem_map.1 hz
    have h6 : y.1.size ≤ 140737488351232 := (hl y hy).1
    show y.1.size ≤ _
    omega
  refine ⟨⟨by show x.1.size ≤ _; omega, fun c hc w hw => ?_, hv _ h.2.2.1.2.2, fun w hw => ?_, hv _ h.2.2.2.2.1.2.2⟩, ⟨h2, fun c hc => ?_, by omega, h4, by omega⟩⟩
  · have h6 : w.size ≤ 140737488351232 := (h.2.1.2.2 c hc).2.2 w hw
    omega
  · have h6 : w.size ≤ 140737488351232 := h.2.2.2.1.2.2 w hw
    omega
  · exact (h.2.1.2.2 c hc).1
set_option maxRecDepth 100000 in
theorem tab {W : World} (h : laidMetH Tryz.prog Rows.actionKeysMatchSpecRow.laid W) : Lib.TabIs Tryz.prog W "internal/strconv.uint64pow10" .u64 Lib.pow10Tab := by
  have h2 := laidMetH.filter (fun x => x.1 == "internal/strconv.uint64pow10") h
  rw [MakeChecks.laidMetH_plain _ _ _ (by kernel_rfl)] at h2
  have e : Rows.actionKeysMatchSpecRow.laid.filter (fun x => x.1 == "internal/strconv.uint64pow10") = [("internal/strconv.uint64pow10", Lib.tabData .u64 Lib.pow10Tab)] := by kernel_rfl
  rw [e] at h2
  exact Lib.tabIs_of_head H.powG_eq (show (Tryz.prog.globals[H.powG]?).map (·.type) = some 183 by kernel_rfl) Tryz.underlying183 Tryz.underlying139 (by kernel_rfl) (by kernel_rfl) h2
theorem heap_of {W : World} (h : Lib.TabIs Tryz.prog W "internal/strconv.uint64pow10" .u64 Lib.pow10Tab) : ∃ e fz, W.heap[H.powG]? = some (.cells H.powA e fz) := by
  unfold Lib.TabIs World.var? at h
  rw [H.powG_eq] at h
  simp only [Option.bind_some] at h
  split at h
  · rename_i cs e fz hh
    cases h
    exact ⟨e, fz, hh⟩
  · cases h
theorem walk (x : tyAct.T) (hx : tyAct.ok x) (y : Ty.str.T) (hy : Ty.str.ok y) (z : (Ty.sl 3 40 tyLook).T) (hz : (Ty.sl 3 40 tyLook).ok z) (v v' v'' : Value) (W : World) (h0 : Rep (Cx.start W) (tyAct.arg x) v []) (h1 : Rep (Cx.start W) (Ty.str.arg y) v' []) (h2 : Rep (Cx.start W) ((Ty.sl 3 40 tyLook).arg z) v'' [])
    (ht : Lib.TabIs Tryz.prog W "internal/strconv.uint64pow10" .u64 Lib.pow10Tab) : Calls Tryz.prog 8 #[v, v', v''] W fun e w' => e = .returned (.bool true) ∧ RowKit.Below W.heap.size W w' := by
  obtain ⟨e, fz, hh⟩ := heap_of ht
  have hS : HasPow [.glob H.powG (.cells H.powA e fz)] := ⟨0, e, fz, rfl⟩
  obtain ⟨ok, ft⟩ := act_ok hx
  have hy' : y.size ≤ 140737488351232 := hy
  have hz' : (z : List tyLook.T).length * 40 ≤ 140737488351232 := hz.1
  have hzl : ((z : List tyLook.T).map lookOf).length = (z : List tyLook.T).length := List.length_map _
  refine start_callsG (S := [.glob H.powG (.cells H.powA e fz)]) (S' := [.glob H.powG (.cells H.powA e fz)]) (v := .bool true) (r := .bool true) (G.smithyardlaw5_ActionKeysMatchSpec.ok 281474976710656) (args := [tyAct.arg x, Ty.str.arg y, (Ty.sl 3 40 tyLook).arg z]) rfl (fun i hi => ?_) ⟨fun id hid => ?_, fun id id' h1 h2 hne => ?_⟩ ?_ ⟨Nat.le_refl _, fun _ _ => rfl⟩ rfl
  · rcases (show i = 0 ∨ i = 1 ∨ i = 2 by simp only [List.length_cons, List.length_nil] at hi; omega) with rfl | rfl | rfl
    · exact h0
    · exact h1
    · exact h2
  · have : id = 0 := by simpa using hid
    subst this; exact ⟨_, _, rfl, hh⟩
  · have e1 : id = 0 := by simpa using h1
    have e2 : id' = 0 := by simpa using h2
    exact absurd (e1.trans e2.symm) hne
  · rw [act_of x, looks_arg z]
    refine law7 (Nat.le_refl _) (actOf x) ok ft y (by omega) ((z : List tyLook.T).map lookOf) (by omega) (fun l hl => ?_) hS fun r S => some (resE G.smithyardlaw5_ActionKeysMatchSpec.rs r, S)
    obtain ⟨q, hq, rfl⟩ := List.mem_map.1 hl
    have h3 : q.2.1.size ≤ 140737488351232 := (hz.2.2 q hq).2.1
    show q.2.1.size ≤ _
    omega
theorem own : ownKnob Tryz.prog.godebug = none := by kernel_rfl
theorem laidOut : laidOutB Tryz.prog = true := by kernel_rfl
set_option maxRecDepth 100000 in
theorem lifted (os : Os) (started : os.Started) (H : Type) (enc : TypeId × Value → H) :
    ReturnsInHanded {} Tryz.checked os 8 .any (fun w args => (Rows.actionKeysMatchSpecSpec.pre enc Tryz.prog Tryz.f8 Rows.actionKeysMatchSpecRow.domain false w args ∧ laidMetH Tryz.prog Rows.actionKeysMatchSpecRow.laid w) ∧ sizedMet enc Tryz.prog Tryz.f8 (OpenSpec.ofChange Rows.actionKeysMatchSpecSpec) false w args)
      (Rows.actionKeysMatchSpecSpec.post enc Tryz.prog Tryz.f8 false true false false) := by
  refine returnsInHanded_of_change_and (C := Tryz.checked) (X := fun w _ => laidMetH Tryz.prog Rows.actionKeysMatchSpecRow.laid w) (fun _ _ _ hh h => h.of_heap hh) own started (by kernel_rfl) Tryz.func8
    (ChangeSpec.witness_shaped (enc := enc) (C := Tryz.checked) (os := os) (X := fun w _ => laidMetH Tryz.prog Rows.actionKeysMatchSpecRow.laid w) false (World.laidAll Tryz.prog os Rows.actionKeysMatchSpecRow.laid) #[.agg #[.string ⟨#[]⟩, .slice none 0 0, .slice none 0 0, .slice none 0 0, .slice none 0 0, .int .i64 0], .string ⟨#[]⟩, .slice none 0 0] 8 (World.laidAll_os _ _ _)
      (World.shaped_of_ZipB (by kernel_rfl) (by kernel_rfl)) (by kernel_rfl) (by kernel_rfl) (by kernel_rfl)
      (by rw [MakeChecks.laidMetH_plain _ _ _ (by kernel_rfl)]; exact laidMet_laidAll _ (by kernel_rfl) (by kernel_rfl))) ?_
  intro W base args ds gs before hval0 hW _ hsz0 hX1 hX2
  have hsz : (DataW.weightsEach Tryz.prog (Tryz.f8.params.toList ++ Rows.actionKeysMatchSpecSpec.plain.varTypes Tryz.prog) (ds ++ gs)).all (· ≤ reachBytes) = true := hsz0
  have hval : ∀ (j : Nat) t v, Tryz.f8.params[j]? = some t → args[j]? = some v → Value.okWide Tryz.prog W .any base t v := hval0
  have hW' := hW
  obtain ⟨p, q, hA0, hV, rfl, hfz, hnd⟩ := hW
  have hA : DataW.TrodAll enc Tryz.prog W 0 (fun _ => true) true Tryz.f8.params.toList args.toList ds p := hA0
  rw [Tryz.params8] at hA hval hsz
  obtain ⟨v0, v1, v2, d0, d1, d2, p0, p1, p2, hargs, rfl, rfl, h0, h1, h2⟩ := trodAll_three hA
  obtain rfl : args = #[v0, v1, v2] := by cases args; simp_all
  obtain ⟨rfl, rfl⟩ := trodVars_none hV
  obtain ⟨x0, ok0, r0⟩ := arg_ok ty0 (hval 0 42 v0 rfl rfl) h0 (sized_each hsz (j := 0) rfl rfl)
  obtain ⟨x1, ok1, r1⟩ := arg_ok ty1 (hval 1 9 v1 rfl rfl) h1 (sized_each hsz (j := 1) rfl rfl)
  obtain ⟨x2, ok2, r2⟩ := arg_ok ty2 (hval 2 23 v2 rfl rfl) h2 (sized_each hsz (j := 2) rfl rfl)
  have lt0 : ∀ x ∈ p0, x.block < W.heap.size := by obtain ⟨m, hm⟩ := h0; exact DataW.trod_lt m _ _ _ hm
  have lt1 : ∀ x ∈ p1, x.block < W.heap.size := by obtain ⟨m, hm⟩ := h1; exact DataW.trod_lt m _ _ _ hm
  have lt2 : ∀ x ∈ p2, x.block < W.heap.size := by obtain ⟨m, hm⟩ := h2; exact DataW.trod_lt m _ _ _ hm
  clear hA0 hval0 hsz0 hsz
  refine (walk x0 ok0 x1 ok1 x2 ok2 v0 v1 v2 W r0 r1 r2 (by first | exact tab hX1 | exact tab hX2)).mono fun e W' ⟨he, bel⟩ => ?_
  subst he
  exact ⟨_, rfl, _, _, _, [], _, [], hW', trodAll_mk1 (shut_bool Tryz.underlying4 _), trodAll_mk3 (Below.trod laidOut (by kernel_rfl) (of_decide_eq_true (by kernel_rfl)) h0 bel lt0) (Below.trod laidOut (by kernel_rfl) (of_decide_eq_true (by kernel_rfl)) h1 bel lt1) (Below.trod laidOut (by kernel_rfl) (of_decide_eq_true (by kernel_rfl)) h2 bel lt2), rfl, bel.frame _, fun h => by cases h⟩

theorem holds : Rows.ActionKeysMatchSpecSaid :=
  OpenClaim.holds_of_wide 8 Tryz.f8 rfl rfl rfl rfl rfl rfl rfl ⟨rfl, rfl, rfl, rfl, rfl⟩ rfl rfl rfl rfl rfl (by kernel_rfl) Tryz.func8 (by kernel_rfl)
    (of_decide_eq_true (by kernel_rfl)) (by unfold Func.isWrapper; first | (rw [if_pos (by decide +kernel)]; kernel_rfl) | (rw [if_neg (by decide +kernel)]; exact ⟨rfl, rfl⟩))
    (fun os started H enc _ => lifted os started H enc)
theorem card_holds : Rows.ActionKeysMatchSpecCardSaid :=
  Claim7.holds_tied_plain_at .later [] [.data, .data, .data, .data, .sentinel, .sentinel, .pinned] true (true, "44628d5b6b2c1c0417341b6275fd5333dc5bb73d7a2f211843aefd6dad3ab235") true holds (fun _ h => by cases h) (by kernel_rfl) (fun _ h => by cases h) actionKeysMatchSpec_row_tie rfl ⟨rfl, rfl⟩ (by kernel_rfl) rfl
    (fun f fn hf hfn => by
      obtain rfl : f = 8 := Option.some.inj ((show Tryz.prog.funcNamed "smithyard/smithyardlaw5.ActionKeysMatchSpec" = some 8 by kernel_rfl).symm.trans hf) |>.symm
      obtain rfl : fn = Tryz.f8 := (Option.some.inj (Tryz.func8.symm.trans hfn)).symm
      exact ⟨by kernel_rfl, fun j t ht => by
        rw [Tryz.params8] at ht
        have hm : t ∈ [42, 9, 23] := by simpa using Array.mem_of_getElem? ht
        have hall : ([42, 9, 23].all fun u => !Tryz.prog.wantsStandIn u) = true := by kernel_rfl
        exact (show Tryz.prog.wantsStandIn t = false by simpa using List.all_eq_true.1 hall t hm)⟩)
    (by kernel_rfl)
#print axioms card_holds
end Go.Proofs.YtnapepffpbbkoaaGreatDoor
