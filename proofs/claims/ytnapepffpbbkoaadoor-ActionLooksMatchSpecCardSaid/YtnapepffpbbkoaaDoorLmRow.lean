/- For every list of looks and every list of files that come in, the law ActionLooksMatchSpec answers true and leaves both as they were. Conditions: the row's own (what comes in fits its types, each list and string within the model's size, the listed library variables start as the text lays them); the card ties those variables to the pruned copy of the project. -/
import Derived.Test.YtnapepffpbbkoaaDoorLmU7
import Derived.Test.YtnapepffpbbkoaaDoorLmW
import Derived.Test.YtnapepffpbbkoaaDoorCards
import Derived.Test.YtnapepffpbbkoaaDoorTie
import Derived.ProofKit
import Derived.OpenShut
import Derived.LaidMore
import Derived.Lay
import Derived.SevenTiedAt
import Derived.Stop.Joined
namespace Go.Proofs.YtnapepffpbbkoaaDoor
open Go.ChangeShapes Go.WideShapes Go.ChangeAt Go.RowKit Go.Lm

abbrev tyLook : Ty := .cons .str (.cons .str (.cons .bool .nil))
abbrev tyFile : Ty := .cons .str (.cons .bool (.cons (.sl 1 1 (.int .u8)) .nil))
theorem ty0 : tyOf Tryd.prog 6 22 = some (.sl 3 40 tyLook) := by kernel_rfl
theorem ty1 : tyOf Tryd.prog 6 23 = some (.sl 3 48 tyFile) := by kernel_rfl
def Pure : Prop := ∀ (l : List tyLook.T) (files : List tyFile.T), (Ty.sl 3 40 tyLook).ok l → (Ty.sl 3 48 tyFile).ok files →
  ∃ k S', ∀ K : Bool × Unit → List LV → Option (LV × List LV), G.smithyardlaw5_ActionLooksMatchSpec.fn k (l.map tyLook.elem, files.map tyFile.elem, ()) [] K = K (true, ()) S'
def lookOf (x : tyLook.T) : Look := ⟨x.1, x.2.1, x.2.2.1⟩
def fileOf (x : tyFile.T) : File := ⟨x.1, x.2.1, ⟨((x.2.2.1 : List Int).map fun n => UInt8.ofNat n.toNat).toArray⟩, false, fun h => by cases h⟩
theorem byte_of {n : Int} (h : (Lit.int .u8 n).wf = true) : ((UInt8.ofNat n.toNat).toNat : Int) = n := by
  simp only [Lit.wf, Bool.and_eq_true, decide_eq_true_eq] at h
  have h1 : (0 : Int) ≤ n := h.1
  have h2 : n ≤ 255 := h.2
  rw [UInt8.toNat_ofNat']
  omega
theorem bytes_of {xs : List Int} (h : ∀ n ∈ xs, (Lit.int .u8 n).wf = true) : bytesL ⟨(xs.map fun n => UInt8.ofNat n.toNat).toArray⟩ = xs.map fun n => LV.int .u8 n := by
  unfold bytesL
  rw [List.map_map]
  apply List.map_congr_left
  intro n hn
  show LV.int .u8 _ = _
  rw [byte_of (h n hn)]
theorem file_of {x : tyFile.T} (h : tyFile.ok x) : tyFile.elem x = (fileOf x).lv := by
  have hb : bytesL (fileOf x).b = (x.2.2.1 : List Int).map fun n => LV.int .u8 n := bytes_of h.2.2.1.2.2
  show LV.agg [.str x.1, .bool x.2.1, .sl 1 ((x.2.2.1 : List Int).map fun n => LV.int .u8 n)] = LV.agg [.str x.1, .bool x.2.1, .sl 1 (bytesL (fileOf x).b)]
  rw [hb]
theorem pure : Pure := by
  intro l files hl hf
  have e1 : l.map tyLook.elem = (l.map lookOf).map Look.lv := by rw [List.map_map]; rfl
  have e2 : files.map tyFile.elem = (files.map fileOf).map File.lv := by
    rw [List.map_map]
    exact List.map_congr_left fun x hx => file_of (hf.2.2 x hx)
  refine ⟨281474976710656, [], fun K => ?_⟩
  rw [e1, e2]
  have hl1 : l.length * 40 ≤ 140737488351232 := hl.1
  have hf1 : files.length * 48 ≤ 140737488351232 := hf.1
  refine law (Nat.le_refl _) _ (by rw [List.length_map]; omega) (fun x hx => ?_) _ (by rw [List.length_map]; omega) ⟨by rw [List.length_map]; omega, fun x hx => ?_, fun x hx => ?_⟩ [] K
  · obtain ⟨y, hy, rfl⟩ := List.mem_map.1 hx
    have h : y.2.1.size ≤ 140737488351232 := (hl.2.2 y hy).2.1
    show y.2.1.size ≤ _
    omega
  · obtain ⟨y, hy, rfl⟩ := List.mem_map.1 hx
    have h : (y.2.2.1 : List Int).length * 1 ≤ 140737488351232 := (hf.2.2 y hy).2.2.1.1
    have : (fileOf y).b.size = (y.2.2.1 : List Int).length := by
      unfold fileOf
      simp [ByteArray.size]
      exact List.length_map _
    omega
  · obtain ⟨y, hy, rfl⟩ := List.mem_map.1 hx
    have h : y.1.size ≤ 140737488351232 := (hf.2.2 y hy).1
    show y.1.size ≤ _
    omega

theorem own : ownKnob Tryd.prog.godebug = none := by kernel_rfl
theorem laidOut : laidOutB Tryd.prog = true := by kernel_rfl
theorem walk (l : List tyLook.T) (files : List tyFile.T) (hl : (Ty.sl 3 40 tyLook).ok l) (hf : (Ty.sl 3 48 tyFile).ok files) (v0 v1 : Value) (W : World) (h0 : Rep (Cx.start W) ((Ty.sl 3 40 tyLook).arg l) v0 []) (h1 : Rep (Cx.start W) ((Ty.sl 3 48 tyFile).arg files) v1 []) :
    Calls Tryd.prog 3 #[v0, v1] W fun e w' => e = .returned (.bool true) ∧ Below W.heap.size W w' := by
  obtain ⟨k, S', hk⟩ := pure l files hl hf
  refine start_calls (v := .bool true) (r := .bool true) (S' := S') (G.smithyardlaw5_ActionLooksMatchSpec.ok k) (args := [(Ty.sl 3 40 tyLook).arg l, (Ty.sl 3 48 tyFile).arg files]) rfl (fun i hi => ?_) ?_ rfl
  · match i, hi with
    | 0, _ => exact h0
    | 1, _ => exact h1
  · exact hk fun r S => some (resE G.smithyardlaw5_ActionLooksMatchSpec.rs r, S)

set_option maxRecDepth 100000 in
theorem lifted (os : Os) (started : os.Started) (H : Type) (enc : TypeId × Value → H) :
    ReturnsInHanded {} Tryd.checked os 3 .any (fun w args => (Rows.actionLooksMatchSpecSpec.pre enc Tryd.prog Tryd.f3 Rows.actionLooksMatchSpecRow.domain false w args ∧ laidMetH Tryd.prog Rows.actionLooksMatchSpecRow.laid w) ∧ sizedMet enc Tryd.prog Tryd.f3 (OpenSpec.ofChange Rows.actionLooksMatchSpecSpec) false w args)
      (Rows.actionLooksMatchSpecSpec.post enc Tryd.prog Tryd.f3 false true false false) := by
  refine returnsInHanded_of_change_and (C := Tryd.checked) (X := fun w _ => laidMetH Tryd.prog Rows.actionLooksMatchSpecRow.laid w) (fun _ _ _ hh h => h.of_heap hh) own started (by kernel_rfl) Tryd.func3
    (ChangeSpec.witness_shaped (enc := enc) (C := Tryd.checked) (os := os) (X := fun w _ => laidMetH Tryd.prog Rows.actionLooksMatchSpecRow.laid w) false (World.laidAll Tryd.prog os Rows.actionLooksMatchSpecRow.laid) #[.slice none 0 0, .slice none 0 0] 8 (World.laidAll_os _ _ _)
      (World.shaped_of_ZipB (by kernel_rfl) (by kernel_rfl)) (by kernel_rfl) (by kernel_rfl) (by kernel_rfl)
      (by rw [MakeChecks.laidMetH_plain _ _ _ (by kernel_rfl)]; exact laidMet_laidAll _ (by kernel_rfl) (by kernel_rfl))) ?_
  intro W base args ds gs before hval0 hW _ hsz0 _ _
  have hsz : (DataW.weightsEach Tryd.prog (Tryd.f3.params.toList ++ Rows.actionLooksMatchSpecSpec.plain.varTypes Tryd.prog) (ds ++ gs)).all (· ≤ reachBytes) = true := hsz0
  have hval : ∀ (j : Nat) t v, Tryd.f3.params[j]? = some t → args[j]? = some v → Value.okWide Tryd.prog W .any base t v := hval0
  have hW' := hW
  obtain ⟨p, q, hA0, hV, rfl, hfz, hnd⟩ := hW
  have hA : DataW.TrodAll enc Tryd.prog W 0 (fun _ => true) true Tryd.f3.params.toList args.toList ds p := hA0
  rw [Tryd.params3] at hA hval hsz
  obtain ⟨v0, v1, d0, d1, p0, p1, hargs, rfl, rfl, h0, h1⟩ := trodAll_two hA
  obtain rfl : args = #[v0, v1] := by cases args; simp_all
  obtain ⟨rfl, rfl⟩ := trodVars_none hV
  obtain ⟨x0, ok0, r0⟩ := arg_ok ty0 (hval 0 22 v0 rfl rfl) h0 (sized_each hsz (j := 0) rfl rfl)
  obtain ⟨x1, ok1, r1⟩ := arg_ok ty1 (hval 1 23 v1 rfl rfl) h1 (sized_each hsz (j := 1) rfl rfl)
  have lt0 : ∀ x ∈ p0, x.block < W.heap.size := by obtain ⟨m, hm⟩ := h0; exact DataW.trod_lt m _ _ _ hm
  have lt1 : ∀ x ∈ p1, x.block < W.heap.size := by obtain ⟨m, hm⟩ := h1; exact DataW.trod_lt m _ _ _ hm
  clear hA0 hval0 hsz0 hsz
  refine (walk x0 x1 ok0 ok1 v0 v1 W r0 r1).mono fun e W' ⟨he, bel⟩ => ?_
  subst he
  exact ⟨_, rfl, _, _, _, [], _, [], hW', trodAll_mk1 (shut_bool Tryd.underlying4 _), trodAll_mk2 (Below.trod laidOut (by kernel_rfl) (of_decide_eq_true (by kernel_rfl)) h0 bel lt0) (Below.trod laidOut (by kernel_rfl) (of_decide_eq_true (by kernel_rfl)) h1 bel lt1), rfl, bel.frame _, fun h => by cases h⟩

theorem holds : Rows.ActionLooksMatchSpecSaid :=
  OpenClaim.holds_of_wide 3 Tryd.f3 rfl rfl rfl rfl rfl rfl rfl ⟨rfl, rfl, rfl, rfl, rfl⟩ rfl rfl rfl rfl rfl (by kernel_rfl) Tryd.func3 (by kernel_rfl)
    (of_decide_eq_true (by kernel_rfl)) (by unfold Func.isWrapper; first | (rw [if_pos (by decide +kernel)]; kernel_rfl) | (rw [if_neg (by decide +kernel)]; exact ⟨rfl, rfl⟩))
    (fun os started H enc _ => lifted os started H enc)
theorem card_holds : Rows.ActionLooksMatchSpecCardSaid :=
  Claim7.holds_tied_plain_at .later [] [.data, .pinned] true (true, "2cebf2e67b00e3254e69810037860b9a403c1f9bfb0c8252bf03a1df8320e8f1") false holds (fun _ h => by cases h) (by kernel_rfl) (fun _ h => by cases h) actionLooksMatchSpec_row_tie rfl ⟨rfl, rfl⟩ (by kernel_rfl) rfl
    (fun f fn hf hfn => by
      obtain rfl : f = 3 := Option.some.inj ((show Tryd.prog.funcNamed "smithyard/smithyardlaw5.ActionLooksMatchSpec" = some 3 by kernel_rfl).symm.trans hf) |>.symm
      obtain rfl : fn = Tryd.f3 := (Option.some.inj (Tryd.func3.symm.trans hfn)).symm
      exact ⟨by kernel_rfl, fun j t ht => by
        rw [Tryd.params3] at ht
        have hm : t ∈ [22, 23] := by simpa using Array.mem_of_getElem? ht
        have hall : ([22, 23].all fun u => !Tryd.prog.wantsStandIn u) = true := by kernel_rfl
        exact (show Tryd.prog.wantsStandIn t = false by simpa using List.all_eq_true.1 hall t hm)⟩)
    (by kernel_rfl)
#print axioms card_holds
end Go.Proofs.YtnapepffpbbkoaaDoor
