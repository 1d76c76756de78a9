/- For every action and text that come in, the law ActionTextsComeBack answers true and leaves them as they were. Conditions: the row's own (what comes in fits its type, each list and string within the model's size, the listed library variables start as the text lays them); the card ties those variables to the pruned copy of the project. -/
import Derived.Test.YtnapepffpbbkoaaGreatDoorLmT7
import Derived.Test.YtnapepffpbbkoaaGreatDoorLmW
import Derived.Test.YtnapepffpbbkoaaGreatDoorCards
import Derived.Test.YtnapepffpbbkoaaGreatDoorTie
import Derived.ProofKit
import Derived.OpenShut
import Derived.LaidMore
import Derived.Lay
import Derived.Lib.LaidTab
import Derived.SevenTiedAt
import Derived.Stop.Joined
import Derived.Stop.LaidErr
namespace Go.Proofs.YtnapepffpbbkoaaGreatDoor
open Go.ChangeShapes Go.WideShapes Go.ChangeAt Go.RowKit Go.Lm

abbrev tyVar : Ty := .cons .str (.cons .str .nil)
abbrev tyAct : Ty := .cons .str (.cons (.sl 1 24 (.sl 1 16 .str)) (.cons (.sl 2 32 tyVar) (.cons (.sl 1 16 .str) (.cons (.sl 2 32 tyVar) (.cons (.int .i64) .nil)))))
theorem ty1 : tyOf Tryz.prog 6 9 = some .str := by kernel_rfl
theorem ty0 : tyOf Tryz.prog 6 42 = some tyAct := by kernel_rfl
def varOfT (x : tyVar.T) : AVar := (x.1, x.2.1)
def actOf (x : tyAct.T) : Lm.Act := ⟨x.1, (x.2.1 : List (List ByteArray)), (x.2.2.1 : List tyVar.T).map varOfT, (x.2.2.2.1 : List ByteArray), (x.2.2.2.2.1 : List tyVar.T).map varOfT, x.2.2.2.2.2.1⟩
theorem vars_of (l : List tyVar.T) : l.map tyVar.elem = (l.map varOfT).map varL := by rw [List.map_map]; rfl
theorem act_of (x : tyAct.T) : tyAct.arg x = .agg [.str (actOf x).tool, .sl 1 ((actOf x).cmds.map cmdL), .sl 2 ((actOf x).vars.map varL), .sl 1 ((actOf x).outs.map .str), .sl 2 ((actOf x).needs.map varL), .int .i64 (actOf x).time] := by
  have e1 := vars_of x.2.2.1
  have e2 := vars_of x.2.2.2.2.1
  show LV.agg [.str x.1, .sl 1 ((x.2.1 : List (List ByteArray)).map cmdL), .sl 2 ((x.2.2.1 : List tyVar.T).map tyVar.elem), .sl 1 ((x.2.2.2.1 : List ByteArray).map .str), .sl 2 ((x.2.2.2.2.1 : List tyVar.T).map tyVar.elem), .int .i64 x.2.2.2.2.2.1] = _
  rw [e1, e2]
  rfl
theorem act_ok {x : tyAct.T} (h : tyAct.ok x) : ActOk (actOf x) ∧ ActFit (actOf x) := by
  have h1 : x.1.size ≤ 140737488351232 := h.1
  have h2 : (x.2.1 : List (List ByteArray)).length * 24 ≤ 140737488351232 := h.2.1.1
  have h3 : (x.2.2.1 : List tyVar.T).length * 32 ≤ 140737488351232 := h.2.2.1.1
  have h4 : (x.2.2.2.1 : List ByteArray).length * 16 ≤ 140737488351232 := h.2.2.2.1.1
  have h5 : (x.2.2.2.2.1 : List tyVar.T).length * 32 ≤ 140737488351232 := h.2.2.2.2.1.1
  have l2 : (actOf x).vars.length = (x.2.2.1 : List tyVar.T).length := List.length_map _
  have l4 : (actOf x).needs.length = (x.2.2.2.2.1 : List tyVar.T).length := List.length_map _
  have hv : ∀ l : List tyVar.T, (∀ y ∈ l, tyVar.ok y) → ∀ z ∈ l.map varOfT, z.1.size ≤ 140737488355328 := fun l hl z hz => by
    obtain ⟨y, hy, rfl⟩ := List.mem_map.1 hz
    have h6 : y.1.size ≤ 140737488351232 := (hl y hy).1
    show y.1.size ≤ _
    omega
  refine ⟨⟨by show x.1.size ≤ _; omega, fun c hc w hw => ?_, hv _ h.2.2.1.2.2, fun w hw => ?_, hv _ h.2.2.2.2.1.2.2⟩, ⟨h2, fun c hc => ?_, by omega, h4, by omega⟩⟩
  · have h6 : w.size ≤ 140737488351232 := (h.2.1.2.2 c hc).2.2 w hw
    omega
  · have h6 : w.size ≤ 140737488351232 := h.2.2.2.1.2.2 w hw
    omega
  · exact (h.2.1.2.2 c hc).1
set_option maxRecDepth 100000 in
theorem tab {W : World} (h : laidMetH Tryz.prog Rows.actionTextsComeBackRow.laid W) : Lib.TabIs Tryz.prog W "internal/strconv.uint64pow10" .u64 Lib.pow10Tab := by
  have h2 := laidMetH.filter (fun x => x.1 == "internal/strconv.uint64pow10") h
  rw [MakeChecks.laidMetH_plain _ _ _ (by kernel_rfl)] at h2
  have e : Rows.actionTextsComeBackRow.laid.filter (fun x => x.1 == "internal/strconv.uint64pow10") = [("internal/strconv.uint64pow10", Lib.tabData .u64 Lib.pow10Tab)] := by kernel_rfl
  rw [e] at h2
  exact Lib.tabIs_of_head H.powG_eq (show (Tryz.prog.globals[H.powG]?).map (·.type) = some 183 by kernel_rfl) Tryz.underlying183 Tryz.underlying139 (by kernel_rfl) (by kernel_rfl) h2
theorem heap_of {W : World} (h : Lib.TabIs Tryz.prog W "internal/strconv.uint64pow10" .u64 Lib.pow10Tab) : ∃ e fz, W.heap[H.powG]? = some (.cells H.powA e fz) := by
  unfold Lib.TabIs World.var? at h
  rw [H.powG_eq] at h
  simp only [Option.bind_some] at h
  split at h
  · rename_i cs e fz hh
    cases h
    exact ⟨e, fz, hh⟩
  · cases h
theorem starE : "*" ++ "errors.errorString" = "*errors.errorString" := by decide
theorem rowE (u : TypeId) (h : Tryz.prog.typeName? 3 u = some "*errors.errorString") : u = 199 :=
  typeName_ptr_named (nm := "errors.errorString") (by rw [starE]; kernel_rfl) (by kernel_rfl) (by decide) u (by rw [starE]; exact h)
theorem cell_of {W : World} {n : String} {g : Nat} {text : List UInt8} (hg : Tryz.prog.globalNamed n = some g) (ht : (Tryz.prog.globals[g]?).map (·.type) = some 65) (h : laidMet Tryz.prog [(n, .iface "*errors.errorString" (.ptr (.agg [.lit (.string text)])))] W) : ∃ e fz tp p, W.heap[g]? = some (.cells #[.iface tp p] e fz) := by
  obtain ⟨a, s, hv, _⟩ := laid_sentinel h hg ht Tryz.underlying65 rowE Tryz.underlying199 Tryz.underlying201 rfl rfl Tryz.underlying9 (by kernel_rfl) (by kernel_rfl)
  unfold World.var? at hv
  rw [hg] at hv
  simp only [Option.bind_some] at hv
  split at hv
  · rename_i cs e fz hh
    cases hv
    exact ⟨e, fz, _, _, hh⟩
  · cases hv
set_option maxRecDepth 100000 in
theorem errs {W : World} (h : laidMetH Tryz.prog Rows.actionTextsComeBackRow.laid W) : (∃ e fz tp p, W.heap[H.errG]? = some (.cells #[.iface tp p] e fz)) ∧ ∃ e fz tp p, W.heap[H.rngG]? = some (.cells #[.iface tp p] e fz) := by
  constructor
  · have h2 := laidMetH.filter (fun x => x.1 == "strconv.ErrSyntax") h
    rw [MakeChecks.laidMetH_plain _ _ _ (by kernel_rfl)] at h2
    have e : Rows.actionTextsComeBackRow.laid.filter (fun x => x.1 == "strconv.ErrSyntax") = [("strconv.ErrSyntax", Rows.laid_strconv_ErrSyntax)] := by kernel_rfl
    rw [e] at h2
    exact cell_of H.errG_eq (show (Tryz.prog.globals[H.errG]?).map (·.type) = some 65 by kernel_rfl) h2
  · have h2 := laidMetH.filter (fun x => x.1 == "strconv.ErrRange") h
    rw [MakeChecks.laidMetH_plain _ _ _ (by kernel_rfl)] at h2
    have e : Rows.actionTextsComeBackRow.laid.filter (fun x => x.1 == "strconv.ErrRange") = [("strconv.ErrRange", Rows.laid_strconv_ErrRange)] := by kernel_rfl
    rw [e] at h2
    exact cell_of H.rngG_eq (show (Tryz.prog.globals[H.rngG]?).map (·.type) = some 65 by kernel_rfl) h2
theorem apartG : H.errG ≠ H.rngG := by
  have : (H.errG == H.rngG) = false := by kernel_rfl
  exact fun h => by rw [h, beq_self_eq_true] at this; cases this
theorem apartE : H.powG ≠ H.errG := by
  have : (H.powG == H.errG) = false := by kernel_rfl
  exact fun h => by rw [h, beq_self_eq_true] at this; cases this
theorem apartR : H.powG ≠ H.rngG := by
  have : (H.powG == H.rngG) = false := by kernel_rfl
  exact fun h => by rw [h, beq_self_eq_true] at this; cases this
theorem globs {W : World} (a b c : _) (h0 : W.heap[H.powG]? = some a) (h1 : W.heap[H.errG]? = some b) (h2 : W.heap[H.rngG]? = some c) : Globs W [.glob H.powG a, .glob H.errG b, .glob H.rngG c] := by
  refine ⟨fun id hid => ?_, fun id id' h3 h4 hne => ?_⟩
  · rcases (show id = 0 ∨ id = 1 ∨ id = 2 by simp only [List.length_cons, List.length_nil] at hid; omega) with rfl | rfl | rfl
    · exact ⟨_, _, rfl, h0⟩
    · exact ⟨_, _, rfl, h1⟩
    · exact ⟨_, _, rfl, h2⟩
  · rcases (show id = 0 ∨ id = 1 ∨ id = 2 by simp only [List.length_cons, List.length_nil] at h3; omega) with rfl | rfl | rfl <;> rcases (show id' = 0 ∨ id' = 1 ∨ id' = 2 by simp only [List.length_cons, List.length_nil] at h4; omega) with rfl | rfl | rfl
    · exact absurd rfl hne
    · exact apartE
    · exact apartR
    · exact apartE.symm
    · exact absurd rfl hne
    · exact apartG
    · exact apartR.symm
    · exact apartG.symm
    · exact absurd rfl hne
theorem walk (x : tyAct.T) (hx : tyAct.ok x) (y : Ty.str.T) (v v' : Value) (W : World) (h0 : Rep (Cx.start W) (tyAct.arg x) v []) (h1 : Rep (Cx.start W) (Ty.str.arg y) v' []) (ht : Lib.TabIs Tryz.prog W "internal/strconv.uint64pow10" .u64 Lib.pow10Tab)
    (he : (∃ e fz tp p, W.heap[H.errG]? = some (.cells #[.iface tp p] e fz)) ∧ ∃ e fz tp p, W.heap[H.rngG]? = some (.cells #[.iface tp p] e fz)) :
    Calls Tryz.prog 9 #[v, v'] W fun e w' => e = .returned (.bool true) ∧ RowKit.Below W.heap.size W w' := by
  obtain ⟨e, fz, hh⟩ := heap_of ht
  obtain ⟨⟨e1, f1, t1, p1, g1⟩, e2, f2, t2, p2, g2⟩ := he
  obtain ⟨ok, ft⟩ := act_ok hx
  refine start_callsG (S := [.glob H.powG (.cells H.powA e fz), .glob H.errG (.cells #[.iface t1 p1] e1 f1), .glob H.rngG (.cells #[.iface t2 p2] e2 f2)]) (S' := [.glob H.powG (.cells H.powA e fz), .glob H.errG (.cells #[.iface t1 p1] e1 f1), .glob H.rngG (.cells #[.iface t2 p2] e2 f2)]) (v := .bool true) (r := .bool true) (G.smithyardlaw5_ActionTextsComeBack.ok 281474976710656) (args := [tyAct.arg x, Ty.str.arg y]) rfl (fun i hi => ?_) (globs _ _ _ hh g1 g2) ?_ ⟨Nat.le_refl _, fun _ _ => rfl⟩ rfl
  · rcases (show i = 0 ∨ i = 1 by simp only [List.length_cons, List.length_nil] at hi; omega) with rfl | rfl
    · exact h0
    · exact h1
  · rw [act_of x]
    exact law8 (Nat.le_refl _) (actOf x) ok ft y ⟨0, e, fz, rfl⟩ ⟨1, e1, f1, t1, p1, rfl⟩ ⟨2, e2, f2, t2, p2, rfl⟩ fun r S => some (resE G.smithyardlaw5_ActionTextsComeBack.rs r, S)
theorem own : ownKnob Tryz.prog.godebug = none := by kernel_rfl
theorem laidOut : laidOutB Tryz.prog = true := by kernel_rfl
set_option maxRecDepth 100000 in
theorem lifted (os : Os) (started : os.Started) (H : Type) (enc : TypeId × Value → H) :
    ReturnsInHanded {} Tryz.checked os 9 .any (fun w args => (Rows.actionTextsComeBackSpec.pre enc Tryz.prog Tryz.f9 Rows.actionTextsComeBackRow.domain false w args ∧ laidMetH Tryz.prog Rows.actionTextsComeBackRow.laid w) ∧ sizedMet enc Tryz.prog Tryz.f9 (OpenSpec.ofChange Rows.actionTextsComeBackSpec) false w args)
      (Rows.actionTextsComeBackSpec.post enc Tryz.prog Tryz.f9 false true false false) := by
  refine returnsInHanded_of_change_and (C := Tryz.checked) (X := fun w _ => laidMetH Tryz.prog Rows.actionTextsComeBackRow.laid w) (fun _ _ _ hh h => h.of_heap hh) own started (by kernel_rfl) Tryz.func9
    (ChangeSpec.witness_shaped (enc := enc) (C := Tryz.checked) (os := os) (X := fun w _ => laidMetH Tryz.prog Rows.actionTextsComeBackRow.laid w) false (World.laidAll Tryz.prog os Rows.actionTextsComeBackRow.laid) #[.agg #[.string ⟨#[]⟩, .slice none 0 0, .slice none 0 0, .slice none 0 0, .slice none 0 0, .int .i64 0], .string ⟨#[]⟩] 8 (World.laidAll_os _ _ _)
      (World.shaped_of_ZipB (by kernel_rfl) (by kernel_rfl)) (by kernel_rfl) (by kernel_rfl) (by kernel_rfl)
      (by rw [MakeChecks.laidMetH_plain _ _ _ (by kernel_rfl)]; exact laidMet_laidAll _ (by kernel_rfl) (by kernel_rfl))) ?_
  intro W base args ds gs before hval0 hW _ hsz0 hX1 hX2
  have hsz : (DataW.weightsEach Tryz.prog (Tryz.f9.params.toList ++ Rows.actionTextsComeBackSpec.plain.varTypes Tryz.prog) (ds ++ gs)).all (· ≤ reachBytes) = true := hsz0
  have hval : ∀ (j : Nat) t v, Tryz.f9.params[j]? = some t → args[j]? = some v → Value.okWide Tryz.prog W .any base t v := hval0
  have hW' := hW
  obtain ⟨p, q, hA0, hV, rfl, hfz, hnd⟩ := hW
  have hA : DataW.TrodAll enc Tryz.prog W 0 (fun _ => true) true Tryz.f9.params.toList args.toList ds p := hA0
  rw [Tryz.params9] at hA hval hsz
  obtain ⟨v0, v1, d0, d1, p0, p1, hargs, rfl, rfl, h0, h1⟩ := trodAll_two hA
  obtain rfl : args = #[v0, v1] := by cases args; simp_all
  obtain ⟨rfl, rfl⟩ := trodVars_none hV
  obtain ⟨x0, ok0, r0⟩ := arg_ok ty0 (hval 0 42 v0 rfl rfl) h0 (sized_each hsz (j := 0) rfl rfl)
  obtain ⟨x1, ok1, r1⟩ := arg_ok ty1 (hval 1 9 v1 rfl rfl) h1 (sized_each hsz (j := 1) rfl rfl)
  have lt0 : ∀ x ∈ p0, x.block < W.heap.size := by obtain ⟨m, hm⟩ := h0; exact DataW.trod_lt m _ _ _ hm
  have lt1 : ∀ x ∈ p1, x.block < W.heap.size := by obtain ⟨m, hm⟩ := h1; exact DataW.trod_lt m _ _ _ hm
  clear hA0 hval0 hsz0 hsz
  refine (walk x0 ok0 x1 v0 v1 W r0 r1 (by first | exact tab hX1 | exact tab hX2) (by first | exact errs hX1 | exact errs hX2)).mono fun e W' ⟨he, bel⟩ => ?_
  subst he
  exact ⟨_, rfl, _, _, _, [], _, [], hW', trodAll_mk1 (shut_bool Tryz.underlying4 _), trodAll_mk2 (Below.trod laidOut (by kernel_rfl) (of_decide_eq_true (by kernel_rfl)) h0 bel lt0) (Below.trod laidOut (by kernel_rfl) (of_decide_eq_true (by kernel_rfl)) h1 bel lt1), rfl, bel.frame _, fun h => by cases h⟩

theorem holds : Rows.ActionTextsComeBackSaid :=
  OpenClaim.holds_of_wide 9 Tryz.f9 rfl rfl rfl rfl rfl rfl rfl ⟨rfl, rfl, rfl, rfl, rfl⟩ rfl rfl rfl rfl rfl (by kernel_rfl) Tryz.func9 (by kernel_rfl)
    (of_decide_eq_true (by kernel_rfl)) (by unfold Func.isWrapper; first | (rw [if_pos (by decide +kernel)]; kernel_rfl) | (rw [if_neg (by decide +kernel)]; exact ⟨rfl, rfl⟩))
    (fun os started H enc _ => lifted os started H enc)
theorem card_holds : Rows.ActionTextsComeBackCardSaid :=
  Claim7.holds_tied_plain_at .later [] [.data, .data, .data, .data, .sentinel, .sentinel, .pinned] true (true, "44628d5b6b2c1c0417341b6275fd5333dc5bb73d7a2f211843aefd6dad3ab235") true holds (fun _ h => by cases h) (by kernel_rfl) (fun _ h => by cases h) actionTextsComeBack_row_tie rfl ⟨rfl, rfl⟩ (by kernel_rfl) rfl
    (fun f fn hf hfn => by
      obtain rfl : f = 9 := Option.some.inj ((show Tryz.prog.funcNamed "smithyard/smithyardlaw5.ActionTextsComeBack" = some 9 by kernel_rfl).symm.trans hf) |>.symm
      obtain rfl : fn = Tryz.f9 := (Option.some.inj (Tryz.func9.symm.trans hfn)).symm
      exact ⟨by kernel_rfl, fun j t ht => by
        rw [Tryz.params9] at ht
        have hm : t ∈ [42, 9] := by simpa using Array.mem_of_getElem? ht
        have hall : ([42, 9].all fun u => !Tryz.prog.wantsStandIn u) = true := by kernel_rfl
        exact (show Tryz.prog.wantsStandIn t = false by simpa using List.all_eq_true.1 hall t hm)⟩)
    (by kernel_rfl)
#print axioms card_holds
end Go.Proofs.YtnapepffpbbkoaaGreatDoor
