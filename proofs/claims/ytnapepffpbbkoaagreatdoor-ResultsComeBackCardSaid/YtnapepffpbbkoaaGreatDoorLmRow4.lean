/- For every result and every text that come in, the law ResultsComeBack answers true and leaves them as they were. Conditions: the row's own (what comes in fits its type, each list and string within the model's size, the listed library variables start as the text lays them); the card ties those variables to the pruned copy of the project. -/
import Derived.Test.YtnapepffpbbkoaaGreatDoorLmN12
import Derived.Test.YtnapepffpbbkoaaGreatDoorLmW
import Derived.Test.YtnapepffpbbkoaaGreatDoorCards
import Derived.Test.YtnapepffpbbkoaaGreatDoorTie
import Derived.ProofKit
import Derived.OpenShut
import Derived.LaidMore
import Derived.Lay
import Derived.Lib.LaidTab
import Derived.SevenTiedAt
import Derived.Stop.Joined
namespace Go.Proofs.YtnapepffpbbkoaaGreatDoor
open Go.ChangeShapes Go.WideShapes Go.ChangeAt Go.RowKit Go.Lm

abbrev tyLook : Ty := .cons .str (.cons .str (.cons .bool .nil))
abbrev tyFile : Ty := .cons .str (.cons .bool (.cons (.sl 1 1 (.int .u8)) .nil))
abbrev tyRes : Ty := .cons (.int .i64) (.cons .str (.cons (.sl 3 48 tyFile) (.cons (.sl 3 40 tyLook) (.cons (.int .i64) .nil))))
theorem ty0 : tyOf Tryz.prog 6 25 = some tyRes := by kernel_rfl
theorem ty1 : tyOf Tryz.prog 6 9 = some .str := by kernel_rfl
def lookOf (x : tyLook.T) : Look := ⟨x.1, x.2.1, x.2.2.1⟩
def fileOf (x : tyFile.T) : File := ⟨x.1, x.2.1, ⟨((x.2.2.1 : List Int).map fun n => UInt8.ofNat n.toNat).toArray⟩, false, fun h => by cases h⟩
theorem byte_of {n : Int} (h : (Lit.int .u8 n).wf = true) : ((UInt8.ofNat n.toNat).toNat : Int) = n := by
  simp only [Lit.wf, Bool.and_eq_true, decide_eq_true_eq] at h
  have h1 : (0 : Int) ≤ n := h.1
  have h2 : n ≤ 255 := h.2
  rw [UInt8.toNat_ofNat']
  omega
theorem bytes_of {xs : List Int} (h : ∀ n ∈ xs, (Lit.int .u8 n).wf = true) : bytesL ⟨(xs.map fun n => UInt8.ofNat n.toNat).toArray⟩ = xs.map fun n => LV.int .u8 n := by
  unfold bytesL
  rw [List.map_map]
  apply List.map_congr_left
  intro n hn
  show LV.int .u8 _ = _
  rw [byte_of (h n hn)]
theorem file_of {x : tyFile.T} (h : tyFile.ok x) : tyFile.elem x = (fileOf x).lv := by
  have hb : bytesL (fileOf x).b = (x.2.2.1 : List Int).map fun n => LV.int .u8 n := bytes_of h.2.2.1.2.2
  show LV.agg [.str x.1, .bool x.2.1, .sl 1 ((x.2.2.1 : List Int).map fun n => LV.int .u8 n)] = LV.agg [.str x.1, .bool x.2.1, .sl 1 (bytesL (fileOf x).b)]
  rw [hb]
def resOf (x : tyRes.T) : Res := ⟨x.1, x.2.1, (x.2.2.1 : List tyFile.T).map fileOf, (x.2.2.2.1 : List tyLook.T).map lookOf, x.2.2.2.2.1⟩
theorem files_of (l : List tyFile.T) (h : ∀ y ∈ l, tyFile.ok y) : l.map tyFile.elem = (l.map fileOf).map File.lv := by
  rw [List.map_map]
  exact List.map_congr_left fun y hy => file_of (h y hy)
theorem looks_of (l : List tyLook.T) : l.map tyLook.elem = (l.map lookOf).map Look.lv := by rw [List.map_map]; rfl
theorem res_of {x : tyRes.T} (h : tyRes.ok x) : tyRes.arg x = .agg [.int .i64 (resOf x).code, .str (resOf x).text, .sl 3 ((resOf x).files.map File.lv), .sl 3 ((resOf x).looks.map Look.lv), .int .i64 (resOf x).cmd] := by
  have e2 := files_of x.2.2.1 h.2.2.1.2.2
  have e1 := looks_of x.2.2.2.1
  show LV.agg [.int .i64 x.1, .str x.2.1, .sl 3 ((x.2.2.1 : List tyFile.T).map tyFile.elem), .sl 3 ((x.2.2.2.1 : List tyLook.T).map tyLook.elem), .int .i64 x.2.2.2.2.1] = _
  rw [e1, e2]
  rfl
set_option maxRecDepth 100000 in
theorem tab {W : World} (h : laidMetH Tryz.prog Rows.resultsComeBackRow.laid W) : Lib.TabIs Tryz.prog W "internal/strconv.uint64pow10" .u64 Lib.pow10Tab := by
  have h2 := laidMetH.filter (fun x => x.1 == "internal/strconv.uint64pow10") h
  rw [MakeChecks.laidMetH_plain _ _ _ (by kernel_rfl)] at h2
  have e : Rows.resultsComeBackRow.laid.filter (fun x => x.1 == "internal/strconv.uint64pow10") = [("internal/strconv.uint64pow10", Lib.tabData .u64 Lib.pow10Tab)] := by kernel_rfl
  rw [e] at h2
  exact Lib.tabIs_of_head H.powG_eq (show (Tryz.prog.globals[H.powG]?).map (·.type) = some 183 by kernel_rfl) Tryz.underlying183 Tryz.underlying139 (by kernel_rfl) (by kernel_rfl) h2
theorem heap_of {W : World} (h : Lib.TabIs Tryz.prog W "internal/strconv.uint64pow10" .u64 Lib.pow10Tab) : ∃ e fz, W.heap[H.powG]? = some (.cells H.powA e fz) := by
  unfold Lib.TabIs World.var? at h
  rw [H.powG_eq] at h
  simp only [Option.bind_some] at h
  split at h
  · rename_i cs e fz hh
    cases h
    exact ⟨e, fz, hh⟩
  · cases h
theorem walk (x : tyRes.T) (hx : tyRes.ok x) (t : Ty.str.T) (v v1 : Value) (W : World) (h0 : Rep (Cx.start W) (tyRes.arg x) v []) (h1' : Rep (Cx.start W) (Ty.str.arg t) v1 []) (ht : Lib.TabIs Tryz.prog W "internal/strconv.uint64pow10" .u64 Lib.pow10Tab) :
    Calls Tryz.prog 5 #[v, v1] W fun e w' => e = .returned (.bool true) ∧ RowKit.Below W.heap.size W w' := by
  obtain ⟨e, fz, hh⟩ := heap_of ht
  have hS : HasPow [.glob H.powG (.cells H.powA e fz)] := ⟨0, e, fz, rfl⟩
  have h1 : x.2.1.size ≤ 140737488351232 := hx.2.1
  have h2 : (x.2.2.1 : List tyFile.T).length * 48 ≤ 140737488351232 := hx.2.2.1.1
  have h3 : (x.2.2.2.1 : List tyLook.T).length * 40 ≤ 140737488351232 := hx.2.2.2.1.1
  have l2 : (resOf x).files.length = (x.2.2.1 : List tyFile.T).length := List.length_map _
  have l3 : (resOf x).looks.length = (x.2.2.2.1 : List tyLook.T).length := List.length_map _
  have ok : ResOk (resOf x) := ⟨by show x.2.1.size ≤ _; omega, ⟨by omega, fun y hy => ?_, fun y hy => ?_⟩, fun y hy => ?_⟩
  · refine start_callsG (S := [.glob H.powG (.cells H.powA e fz)]) (S' := [.glob H.powG (.cells H.powA e fz)]) (v := .bool true) (r := .bool true) (G.smithyardlaw5_ResultsComeBack.ok 281474976710656) (args := [tyRes.arg x, Ty.str.arg t]) rfl (fun i hi => ?_) ⟨fun id hid => ?_, fun id id' h1 h2 hne => ?_⟩ ?_ ⟨Nat.le_refl _, fun _ _ => rfl⟩ rfl
    · match i, hi with
      | 0, _ => exact h0
      | 1, _ => exact h1'
    · have : id = 0 := by simpa using hid
      subst this; exact ⟨_, _, rfl, hh⟩
    · have e1 : id = 0 := by simpa using h1
      have e2 : id' = 0 := by simpa using h2
      exact absurd (e1.trans e2.symm) hne
    · rw [res_of hx]
      exact law4 (Nat.le_refl _) (resOf x) ok (by omega) t hS fun r S => some (resE G.smithyardlaw5_ResultsComeBack.rs r, S)
  · obtain ⟨z, hz, rfl⟩ := List.mem_map.1 hy
    have h : (z.2.2.1 : List Int).length * 1 ≤ 140737488351232 := (hx.2.2.1.2.2 z hz).2.2.1.1
    have : (fileOf z).b.size = (z.2.2.1 : List Int).length := by
      unfold fileOf
      simp [ByteArray.size]
      exact List.length_map _
    omega
  · obtain ⟨z, hz, rfl⟩ := List.mem_map.1 hy
    have h : z.1.size ≤ 140737488351232 := (hx.2.2.1.2.2 z hz).1
    show z.1.size ≤ _
    omega
  · obtain ⟨z, hz, rfl⟩ := List.mem_map.1 hy
    have h : z.2.1.size ≤ 140737488351232 := (hx.2.2.2.1.2.2 z hz).2.1
    show z.2.1.size ≤ _
    omega
theorem own : ownKnob Tryz.prog.godebug = none := by kernel_rfl
theorem laidOut : laidOutB Tryz.prog = true := by kernel_rfl
set_option maxRecDepth 100000 in
theorem lifted (os : Os) (started : os.Started) (H : Type) (enc : TypeId × Value → H) :
    ReturnsInHanded {} Tryz.checked os 5 .any (fun w args => (Rows.resultsComeBackSpec.pre enc Tryz.prog Tryz.f5 Rows.resultsComeBackRow.domain false w args ∧ laidMetH Tryz.prog Rows.resultsComeBackRow.laid w) ∧ sizedMet enc Tryz.prog Tryz.f5 (OpenSpec.ofChange Rows.resultsComeBackSpec) false w args)
      (Rows.resultsComeBackSpec.post enc Tryz.prog Tryz.f5 false true false false) := by
  refine returnsInHanded_of_change_and (C := Tryz.checked) (X := fun w _ => laidMetH Tryz.prog Rows.resultsComeBackRow.laid w) (fun _ _ _ hh h => h.of_heap hh) own started (by kernel_rfl) Tryz.func5
    (ChangeSpec.witness_shaped (enc := enc) (C := Tryz.checked) (os := os) (X := fun w _ => laidMetH Tryz.prog Rows.resultsComeBackRow.laid w) false (World.laidAll Tryz.prog os Rows.resultsComeBackRow.laid) #[.agg #[.int .i64 0, .string ⟨#[]⟩, .slice none 0 0, .slice none 0 0, .int .i64 0], .string ⟨#[]⟩] 8 (World.laidAll_os _ _ _)
      (World.shaped_of_ZipB (by kernel_rfl) (by kernel_rfl)) (by kernel_rfl) (by kernel_rfl) (by kernel_rfl)
      (by rw [MakeChecks.laidMetH_plain _ _ _ (by kernel_rfl)]; exact laidMet_laidAll _ (by kernel_rfl) (by kernel_rfl))) ?_
  intro W base args ds gs before hval0 hW _ hsz0 hX1 hX2
  have hsz : (DataW.weightsEach Tryz.prog (Tryz.f5.params.toList ++ Rows.resultsComeBackSpec.plain.varTypes Tryz.prog) (ds ++ gs)).all (· ≤ reachBytes) = true := hsz0
  have hval : ∀ (j : Nat) t v, Tryz.f5.params[j]? = some t → args[j]? = some v → Value.okWide Tryz.prog W .any base t v := hval0
  have hW' := hW
  obtain ⟨p, q, hA0, hV, rfl, hfz, hnd⟩ := hW
  have hA : DataW.TrodAll enc Tryz.prog W 0 (fun _ => true) true Tryz.f5.params.toList args.toList ds p := hA0
  rw [Tryz.params5] at hA hval hsz
  obtain ⟨v0, v1, d0, d1, p0, p1, hargs, rfl, rfl, h0, h1⟩ := trodAll_two hA
  obtain rfl : args = #[v0, v1] := by cases args; simp_all
  obtain ⟨rfl, rfl⟩ := trodVars_none hV
  obtain ⟨x0, ok0, r0⟩ := arg_ok ty0 (hval 0 25 v0 rfl rfl) h0 (sized_each hsz (j := 0) rfl rfl)
  obtain ⟨x1, ok1, r1⟩ := arg_ok ty1 (hval 1 9 v1 rfl rfl) h1 (sized_each hsz (j := 1) rfl rfl)
  have lt0 : ∀ x ∈ p0, x.block < W.heap.size := by obtain ⟨m, hm⟩ := h0; exact DataW.trod_lt m _ _ _ hm
  have lt1 : ∀ x ∈ p1, x.block < W.heap.size := by obtain ⟨m, hm⟩ := h1; exact DataW.trod_lt m _ _ _ hm
  clear hA0 hval0 hsz0 hsz
  refine (walk x0 ok0 x1 v0 v1 W r0 r1 (by first | exact tab hX1 | exact tab hX2)).mono fun e W' ⟨he, bel⟩ => ?_
  subst he
  exact ⟨_, rfl, _, _, _, [], _, [], hW', trodAll_mk1 (shut_bool Tryz.underlying4 _), trodAll_mk2 (Below.trod laidOut (by kernel_rfl) (of_decide_eq_true (by kernel_rfl)) h0 bel lt0) (Below.trod laidOut (by kernel_rfl) (of_decide_eq_true (by kernel_rfl)) h1 bel lt1), rfl, bel.frame _, fun h => by cases h⟩

theorem holds : Rows.ResultsComeBackSaid :=
  OpenClaim.holds_of_wide 5 Tryz.f5 rfl rfl rfl rfl rfl rfl rfl ⟨rfl, rfl, rfl, rfl, rfl⟩ rfl rfl rfl rfl rfl (by kernel_rfl) Tryz.func5 (by kernel_rfl)
    (of_decide_eq_true (by kernel_rfl)) (by unfold Func.isWrapper; first | (rw [if_pos (by decide +kernel)]; kernel_rfl) | (rw [if_neg (by decide +kernel)]; exact ⟨rfl, rfl⟩))
    (fun os started H enc _ => lifted os started H enc)
theorem card_holds : Rows.ResultsComeBackCardSaid :=
  Claim7.holds_tied_plain_at .later [] [.data, .data, .data, .data, .sentinel, .sentinel, .pinned] true (true, "44628d5b6b2c1c0417341b6275fd5333dc5bb73d7a2f211843aefd6dad3ab235") true holds (fun _ h => by cases h) (by kernel_rfl) (fun _ h => by cases h) resultsComeBack_row_tie rfl ⟨rfl, rfl⟩ (by kernel_rfl) rfl
    (fun f fn hf hfn => by
      obtain rfl : f = 5 := Option.some.inj ((show Tryz.prog.funcNamed "smithyard/smithyardlaw5.ResultsComeBack" = some 5 by kernel_rfl).symm.trans hf) |>.symm
      obtain rfl : fn = Tryz.f5 := (Option.some.inj (Tryz.func5.symm.trans hfn)).symm
      exact ⟨by kernel_rfl, fun j t ht => by
        rw [Tryz.params5] at ht
        have hm : t ∈ [25, 9] := by simpa using Array.mem_of_getElem? ht
        have hall : ([25, 9].all fun u => !Tryz.prog.wantsStandIn u) = true := by kernel_rfl
        exact (show Tryz.prog.wantsStandIn t = false by simpa using List.all_eq_true.1 hall t hm)⟩)
    (by kernel_rfl)
#print axioms card_holds
end Go.Proofs.YtnapepffpbbkoaaGreatDoor
