/- For every text that comes in, the law ActionReadsMatchSpec answers true and leaves it as it was. Conditions: the row's own (what comes in fits its type, each list and string within the model's size, the listed library variables start as the text lays them); the card ties those variables to the pruned copy of the project. -/
import Derived.Test.YtnapepffpbbkoaaGreatDoorLmO8
import Derived.Test.YtnapepffpbbkoaaGreatDoorLmW
import Derived.Test.YtnapepffpbbkoaaGreatDoorCards
import Derived.Test.YtnapepffpbbkoaaGreatDoorTie
import Derived.ProofKit
import Derived.OpenShut
import Derived.LaidMore
import Derived.Lay
import Derived.Lib.LaidTab
import Derived.SevenTiedAt
import Derived.Stop.Joined
import Derived.Stop.LaidErr
namespace Go.Proofs.YtnapepffpbbkoaaGreatDoor
open Go.ChangeShapes Go.WideShapes Go.ChangeAt Go.RowKit Go.Lm

theorem ty0 : tyOf Tryz.prog 6 9 = some .str := by kernel_rfl
theorem starE : "*" ++ "errors.errorString" = "*errors.errorString" := by decide
theorem rowE (u : TypeId) (h : Tryz.prog.typeName? 3 u = some "*errors.errorString") : u = 199 :=
  typeName_ptr_named (nm := "errors.errorString") (by rw [starE]; kernel_rfl) (by kernel_rfl) (by decide) u (by rw [starE]; exact h)
theorem cell_of {W : World} {n : String} {g : Nat} {text : List UInt8} (hg : Tryz.prog.globalNamed n = some g) (ht : (Tryz.prog.globals[g]?).map (·.type) = some 65) (h : laidMet Tryz.prog [(n, .iface "*errors.errorString" (.ptr (.agg [.lit (.string text)])))] W) : ∃ e fz tp p, W.heap[g]? = some (.cells #[.iface tp p] e fz) := by
  obtain ⟨a, s, hv, _⟩ := laid_sentinel h hg ht Tryz.underlying65 rowE Tryz.underlying199 Tryz.underlying201 rfl rfl Tryz.underlying9 (by kernel_rfl) (by kernel_rfl)
  unfold World.var? at hv
  rw [hg] at hv
  simp only [Option.bind_some] at hv
  split at hv
  · rename_i cs e fz hh
    cases hv
    exact ⟨e, fz, _, _, hh⟩
  · cases hv
set_option maxRecDepth 100000 in
theorem errs {W : World} (h : laidMetH Tryz.prog Rows.actionReadsMatchSpecRow.laid W) : (∃ e fz tp p, W.heap[H.errG]? = some (.cells #[.iface tp p] e fz)) ∧ ∃ e fz tp p, W.heap[H.rngG]? = some (.cells #[.iface tp p] e fz) := by
  constructor
  · have h2 := laidMetH.filter (fun x => x.1 == "strconv.ErrSyntax") h
    rw [MakeChecks.laidMetH_plain _ _ _ (by kernel_rfl)] at h2
    have e : Rows.actionReadsMatchSpecRow.laid.filter (fun x => x.1 == "strconv.ErrSyntax") = [("strconv.ErrSyntax", Rows.laid_strconv_ErrSyntax)] := by kernel_rfl
    rw [e] at h2
    exact cell_of H.errG_eq (show (Tryz.prog.globals[H.errG]?).map (·.type) = some 65 by kernel_rfl) h2
  · have h2 := laidMetH.filter (fun x => x.1 == "strconv.ErrRange") h
    rw [MakeChecks.laidMetH_plain _ _ _ (by kernel_rfl)] at h2
    have e : Rows.actionReadsMatchSpecRow.laid.filter (fun x => x.1 == "strconv.ErrRange") = [("strconv.ErrRange", Rows.laid_strconv_ErrRange)] := by kernel_rfl
    rw [e] at h2
    exact cell_of H.rngG_eq (show (Tryz.prog.globals[H.rngG]?).map (·.type) = some 65 by kernel_rfl) h2
theorem apartG : H.errG ≠ H.rngG := by
  have : (H.errG == H.rngG) = false := by kernel_rfl
  exact fun h => by rw [h, beq_self_eq_true] at this; cases this
theorem globs {W : World} (a b : _) (h1 : W.heap[H.errG]? = some a) (h2 : W.heap[H.rngG]? = some b) : Globs W [.glob H.errG a, .glob H.rngG b] := by
  refine ⟨fun id hid => ?_, fun id id' h3 h4 hne => ?_⟩
  · rcases (show id = 0 ∨ id = 1 by simp only [List.length_cons, List.length_nil] at hid; omega) with rfl | rfl
    · exact ⟨_, _, rfl, h1⟩
    · exact ⟨_, _, rfl, h2⟩
  · rcases (show id = 0 ∨ id = 1 by simp only [List.length_cons, List.length_nil] at h3; omega) with rfl | rfl <;> rcases (show id' = 0 ∨ id' = 1 by simp only [List.length_cons, List.length_nil] at h4; omega) with rfl | rfl
    · exact absurd rfl hne
    · exact apartG
    · exact apartG.symm
    · exact absurd rfl hne
theorem walk (x : Ty.str.T) (v : Value) (W : World) (h0 : Rep (Cx.start W) (Ty.str.arg x) v []) (ht : (∃ e fz tp p, W.heap[H.errG]? = some (.cells #[.iface tp p] e fz)) ∧ ∃ e fz tp p, W.heap[H.rngG]? = some (.cells #[.iface tp p] e fz)) :
    Calls Tryz.prog 6 #[v] W fun e w' => e = .returned (.bool true) ∧ RowKit.Below W.heap.size W w' := by
  obtain ⟨⟨e1, f1, t1, p1, g1⟩, e2, f2, t2, p2, g2⟩ := ht
  refine start_callsG (S := [.glob H.errG (.cells #[.iface t1 p1] e1 f1), .glob H.rngG (.cells #[.iface t2 p2] e2 f2)]) (S' := [.glob H.errG (.cells #[.iface t1 p1] e1 f1), .glob H.rngG (.cells #[.iface t2 p2] e2 f2)]) (v := .bool true) (r := .bool true) (G.smithyardlaw5_ActionReadsMatchSpec.ok 281474976710656) (args := [Ty.str.arg x]) rfl (fun i hi => ?_) (globs _ _ g1 g2) ?_ ⟨Nat.le_refl _, fun _ _ => rfl⟩ rfl
  · have : i = 0 := by simpa using hi
    subst this; exact h0
  · exact law5 (Nat.le_refl _) x _ ⟨0, e1, f1, t1, p1, rfl⟩ ⟨1, e2, f2, t2, p2, rfl⟩ fun r S => some (resE G.smithyardlaw5_ActionReadsMatchSpec.rs r, S)
theorem own : ownKnob Tryz.prog.godebug = none := by kernel_rfl
theorem laidOut : laidOutB Tryz.prog = true := by kernel_rfl
set_option maxRecDepth 100000 in
theorem lifted (os : Os) (started : os.Started) (H : Type) (enc : TypeId × Value → H) :
    ReturnsInHanded {} Tryz.checked os 6 .any (fun w args => (Rows.actionReadsMatchSpecSpec.pre enc Tryz.prog Tryz.f6 Rows.actionReadsMatchSpecRow.domain false w args ∧ laidMetH Tryz.prog Rows.actionReadsMatchSpecRow.laid w) ∧ sizedMet enc Tryz.prog Tryz.f6 (OpenSpec.ofChange Rows.actionReadsMatchSpecSpec) false w args)
      (Rows.actionReadsMatchSpecSpec.post enc Tryz.prog Tryz.f6 false true false false) := by
  refine returnsInHanded_of_change_and (C := Tryz.checked) (X := fun w _ => laidMetH Tryz.prog Rows.actionReadsMatchSpecRow.laid w) (fun _ _ _ hh h => h.of_heap hh) own started (by kernel_rfl) Tryz.func6
    (ChangeSpec.witness_shaped (enc := enc) (C := Tryz.checked) (os := os) (X := fun w _ => laidMetH Tryz.prog Rows.actionReadsMatchSpecRow.laid w) false (World.laidAll Tryz.prog os Rows.actionReadsMatchSpecRow.laid) #[.string ⟨#[]⟩] 8 (World.laidAll_os _ _ _)
      (World.shaped_of_ZipB (by kernel_rfl) (by kernel_rfl)) (by kernel_rfl) (by kernel_rfl) (by kernel_rfl)
      (by rw [MakeChecks.laidMetH_plain _ _ _ (by kernel_rfl)]; exact laidMet_laidAll _ (by kernel_rfl) (by kernel_rfl))) ?_
  intro W base args ds gs before hval0 hW _ hsz0 hX1 hX2
  have hsz : (DataW.weightsEach Tryz.prog (Tryz.f6.params.toList ++ Rows.actionReadsMatchSpecSpec.plain.varTypes Tryz.prog) (ds ++ gs)).all (· ≤ reachBytes) = true := hsz0
  have hval : ∀ (j : Nat) t v, Tryz.f6.params[j]? = some t → args[j]? = some v → Value.okWide Tryz.prog W .any base t v := hval0
  have hW' := hW
  obtain ⟨p, q, hA0, hV, rfl, hfz, hnd⟩ := hW
  have hA : DataW.TrodAll enc Tryz.prog W 0 (fun _ => true) true Tryz.f6.params.toList args.toList ds p := hA0
  rw [Tryz.params6] at hA hval hsz
  obtain ⟨v0, d0, hargs, rfl, h0⟩ := trodAll_one hA
  obtain rfl : args = #[v0] := by cases args; simp_all
  obtain ⟨rfl, rfl⟩ := trodVars_none hV
  obtain ⟨x0, ok0, r0⟩ := arg_ok ty0 (hval 0 9 v0 rfl rfl) h0 (sized_each hsz (j := 0) rfl rfl)
  have lt0 : ∀ x ∈ p, x.block < W.heap.size := by obtain ⟨m, hm⟩ := h0; exact DataW.trod_lt m _ _ _ hm
  clear hA0 hval0 hsz0 hsz
  refine (walk x0 v0 W r0 (by first | exact errs hX1 | exact errs hX2)).mono fun e W' ⟨he, bel⟩ => ?_
  subst he
  exact ⟨_, rfl, _, _, _, [], _, [], hW', trodAll_mk1 (shut_bool Tryz.underlying4 _), trodAll_mk1 (Below.trod laidOut (by kernel_rfl) (of_decide_eq_true (by kernel_rfl)) h0 bel lt0), rfl, bel.frame _, fun h => by cases h⟩

theorem holds : Rows.ActionReadsMatchSpecSaid :=
  OpenClaim.holds_of_wide 6 Tryz.f6 rfl rfl rfl rfl rfl rfl rfl ⟨rfl, rfl, rfl, rfl, rfl⟩ rfl rfl rfl rfl rfl (by kernel_rfl) Tryz.func6 (by kernel_rfl)
    (of_decide_eq_true (by kernel_rfl)) (by unfold Func.isWrapper; first | (rw [if_pos (by decide +kernel)]; kernel_rfl) | (rw [if_neg (by decide +kernel)]; exact ⟨rfl, rfl⟩))
    (fun os started H enc _ => lifted os started H enc)
theorem card_holds : Rows.ActionReadsMatchSpecCardSaid :=
  Claim7.holds_tied_plain_at .later [] [.data, .data, .data, .data, .sentinel, .sentinel, .pinned] true (true, "44628d5b6b2c1c0417341b6275fd5333dc5bb73d7a2f211843aefd6dad3ab235") true holds (fun _ h => by cases h) (by kernel_rfl) (fun _ h => by cases h) actionReadsMatchSpec_row_tie rfl ⟨rfl, rfl⟩ (by kernel_rfl) rfl
    (fun f fn hf hfn => by
      obtain rfl : f = 6 := Option.some.inj ((show Tryz.prog.funcNamed "smithyard/smithyardlaw5.ActionReadsMatchSpec" = some 6 by kernel_rfl).symm.trans hf) |>.symm
      obtain rfl : fn = Tryz.f6 := (Option.some.inj (Tryz.func6.symm.trans hfn)).symm
      exact ⟨by kernel_rfl, fun j t ht => by
        rw [Tryz.params6] at ht
        have hm : t ∈ [9] := by simpa using Array.mem_of_getElem? ht
        have hall : ([9].all fun u => !Tryz.prog.wantsStandIn u) = true := by kernel_rfl
        exact (show Tryz.prog.wantsStandIn t = false by simpa using List.all_eq_true.1 hall t hm)⟩)
    (by kernel_rfl)
#print axioms card_holds
end Go.Proofs.YtnapepffpbbkoaaGreatDoor
