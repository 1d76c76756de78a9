/- A library function of this seat, by hand: room for a builder that has not been written. -/
import Derived.Test.YtnapepffpbbkoaaGreatDoorLmK
import Derived.Test.YtnapepffpbbkoaaGreatDoorLmHc
set_option maxRecDepth 100000
namespace Go.Lm
open Go.Proofs
section
variable {R : Type}
theorem digits_one : ∀ (n t : Nat) (acc : Array Value), (∀ p, p < acc.size → (acc.getD p undef).oneCell' = true) → ∀ p, p < (Extern.BytealgMakeNoZero.digits n t acc).size → ((Extern.BytealgMakeNoZero.digits n t acc).getD p undef).oneCell' = true
  | 0, _, _, h => h
  | n + 1, t, acc, h => by
    rw [Extern.BytealgMakeNoZero.digits]
    refine digits_one n _ _ fun p hp => ?_
    simp only [Array.size_push] at hp
    rcases Nat.lt_or_ge p acc.size with h1 | h1
    · have := h p h1
      simp only [Array.getD_eq_getD_getElem?, Array.getElem?_push_lt h1] at this ⊢
      simpa [h1] using this
    · obtain rfl : p = acc.size := by omega
      simp [Array.getD_eq_getD_getElem?]
      rfl
theorem run_mnz {P : Program} (w : World) (ps : Array TypeId) (t e : TypeId) (ht : P.underlying t = some (.slice e)) (n : Nat) (hn : n ≤ 281474976710656) :
    ∃ cs : Array Value, (Extern.BytealgMakeNoZero.makeNoZero ps #[t] #[.int .i64 n]).run P w = .ok (.slice (some ⟨w.heap.size, 0, none⟩) n cs.size) (w.drew.drew.alloc (.cells cs e)) ∧ n ≤ cs.size ∧ (n ≤ maxLen → cs.size ≤ maxLen) ∧ ∀ p, p < cs.size → (cs.getD p undef).oneCell' = true := by
  have hdef : Extern.BytealgMakeNoZero.makeNoZero ps #[t] #[.int .i64 n] =
      (do
        let .slice elem ← underlying t | stuck "bytealg.MakeNoZero: slice type expected"
        if (n : Int) < 0 || (n : Int) > 2 ^ 48 then runtimePanic (.error "makeslice: len out of range")
        let cap ← choose (.appendCap (n : Int).toNat 0 elem)
        askRoom cap
        let bytes ← choose (.extern "internal/bytealg.MakeNoZero.bytes" 0)
        let a ← newRow elem (Extern.BytealgMakeNoZero.digits cap bytes #[])
        pure (.slice (some a) (n : Int).toNat cap)) := rfl
  refine ⟨Extern.BytealgMakeNoZero.digits (grownCap w n 0 e) ((Question.extern "internal/bytealg.MakeNoZero.bytes" 0).cut (w.tape (w.drawn + 1) (.extern "internal/bytealg.MakeNoZero.bytes" 0))) #[], ?_, ?_, ?_, digits_one _ _ _ (fun p hp => by simp at hp)⟩
  · rw [hdef]
    have h1 : ¬ (n : Int) < 0 := by omega
    have h2 : ¬ (281474976710656 : Int) < (n : Int) := by omega
    simp [run_underlying ht, h1, h2, Question.forced, newRow, Lib.size_digits, grownCap]
  · rw [Lib.size_digits]
    simpa using grownCap_ge w n 0 e
  · intro hm
    rw [Lib.size_digits]
    simpa using grownCap_le_maxLen w n 0 e hm
set_option maxHeartbeats 2000000 in
set_option maxRecDepth 1000000 in
theorem H.grow_fresh (b n : Nat) (w : World) (hbk : w.heap[b]? = some (.cells #[.pointer (some ⟨b, 0, none⟩), .slice none 0 0] 62 (0, 0))) (hn : n ≤ 281474976710656) :
    Calls Tryz.prog 175 #[.pointer (some ⟨b, 0, none⟩), .int .i64 n] w fun e w' => e = .returned (.tuple #[]) ∧ ∃ cs : Array Value, n ≤ cs.size ∧ (n ≤ maxLen → cs.size ≤ maxLen) ∧ (∀ p, p < cs.size → (cs.getD p undef).oneCell' = true) ∧
      w' = ((w.alloc (.cells cs 5)).setCell ⟨b, 1, none⟩ (.slice (some ⟨w.heap.size, 0, none⟩) 0 cs.size)).drew.drew.drew := by
  obtain ⟨cs, hrun, hle, hmax, hone⟩ := run_mnz (P := Tryz.prog) w.drew #[3] 60 5 Tryz.underlying60 n hn
  have hw : IntKind.i64.wrap (IntKind.i64.wrap 0 + (n : Int)) = n := by
    rw [IntKind.wrap_i64, IntKind.wrap_i64]
    omega
  have hcall : (callFunc 195 #[.int .i64 (IntKind.i64.wrap (IntKind.i64.wrap 0 + (n : Int)))]).run Tryz.prog w.drew = .ok (.value (.slice (some ⟨w.drew.heap.size, 0, none⟩) n cs.size)) (w.drew.drew.drew.alloc (.cells cs 5)) := by
    rw [hw, run_callFunc_extern Tryz.func195 (by kernel_rfl) (by kernel_rfl) (by kernel_rfl) (e := Extern.BytealgMakeNoZero.makeNoZero #[3] #[60]) (by kernel_rfl), hrun]
    rfl
  have c1 : w.drew.cell? ⟨b, 1, none⟩ = some (.slice none 0 0) := by
    have : w.drew.heap[b]? = _ := hbk
    rw [Lib.cell_of_heap this]; rfl
  have c2 : (w.alloc (.cells cs 5)).cell? ⟨b, 1, none⟩ = some (.slice none 0 0) := by
    have hlt : b < w.heap.size := by
      rcases Nat.lt_or_ge b w.heap.size with h' | h'
      · exact h'
      · simp [Array.getElem?_eq_none h'] at hbk
    have : (w.alloc (.cells cs 5)).heap[b]? = _ := (Lib.alloc_old w _ b hlt).trans hbk
    rw [Lib.cell_of_heap this]; rfl
  have f2 : (w.alloc (.cells cs 5)).frozen? ⟨b, 1, none⟩ = false := by
    have hlt : b < w.heap.size := by
      rcases Nat.lt_or_ge b w.heap.size with h' | h'
      · exact h'
      · simp [Array.getElem?_eq_none h'] at hbk
    exact Lib.frozen_of_heap ((Lib.alloc_old w _ b hlt).trans hbk) 1
  have sz5 : (Tryz.prog.info? 5).map (·.size) = some 1 := by kernel_rfl
  have hcopy : ∀ W : World, (Builtin.copy_ #[60, 60] 3 #[.slice (some ⟨w.heap.size, 0, none⟩) 0 cs.size, .slice none 0 0]).run Tryz.prog W = .ok (goInt 0) W :=
    fun W => run_copy_none W 60 60 3 5 _ _ 0 cs.size 0 0 Tryz.underlying60 (by kernel_rfl) rfl
  clear hw
  have mixed : Tryz.prog.follows .mixedOrders = true := by kernel_rfl
  have tb := Tryz.underlying62; have ab := Tryz.isAgg62; have zb := Tryz.sizeOf62; have ub := run_underlying tb
  have tpb := Tryz.underlying59; have apb := Tryz.isAgg59; have zpb := Tryz.sizeOf59; have upb := run_underlying tpb
  have t37 := Tryz.underlying60; have a37 := Tryz.isAgg60; have z37 := Tryz.sizeOf60; have u37 := run_underlying t37
  have t3 := Tryz.underlying3; have a3 := Tryz.isAgg3; have z3 := Tryz.sizeOf3; have u3 := run_underlying t3
  have t5 := Tryz.underlying5; have a5 := Tryz.isAgg5; have z5 := Tryz.sizeOf5; have u5 := run_underlying t5
  go_enter Tryz.func175, Tryz.ntmps175
  go_wp2
  go_region_o
  all_goals (go_wp2; go_end0; exact ⟨rfl, cs, hle, hmax, hone, rfl⟩)
set_option maxHeartbeats 2000000 in
set_option maxRecDepth 1000000 in
theorem H.Grow_fresh (b n : Nat) (w : World) (hbk : w.heap[b]? = some (.cells #[.pointer none, .slice none 0 0] 62 (0, 0))) (h0 : 0 < n) (hn : n ≤ 281474976710656) :
    Calls Tryz.prog 141 #[.pointer (some ⟨b, 0, none⟩), .int .i64 n] w fun e w' => e = .returned (.tuple #[]) ∧ ∃ cs : Array Value, n ≤ cs.size ∧ (n ≤ maxLen → cs.size ≤ maxLen) ∧ (∀ p, p < cs.size → (cs.getD p undef).oneCell' = true) ∧
      w' = (((w.setCell ⟨b, 0, none⟩ (.pointer (some ⟨b, 0, none⟩))).alloc (.cells cs 5)).setCell ⟨b, 1, none⟩ (.slice (some ⟨w.heap.size, 0, none⟩) 0 cs.size)).drew.drew.drew.drew := by
  have hbk1 : (w.setCell ⟨b, 0, none⟩ (.pointer (some ⟨b, 0, none⟩))).heap[b]? = some (.cells #[.pointer (some ⟨b, 0, none⟩), .slice none 0 0] 62 (0, 0)) := by
    simp [World.setCell, Array.getElem?_modify, hbk]
  have hsz1 : (w.setCell ⟨b, 0, none⟩ (.pointer (some ⟨b, 0, none⟩))).drew.heap.size = w.heap.size := by simp [World.setCell, World.drew, -World.drew_eq]
  have c1 : (w.setCell ⟨b, 0, none⟩ (.pointer (some ⟨b, 0, none⟩))).cell? ⟨b, 1, none⟩ = some (.slice none 0 0) := by rw [Lib.cell_of_heap hbk1]; rfl
  have mixed : Tryz.prog.follows .mixedOrders = true := by kernel_rfl
  have tb := Tryz.underlying62; have ab := Tryz.isAgg62; have zb := Tryz.sizeOf62; have ub := run_underlying tb
  have tpb := Tryz.underlying59; have apb := Tryz.isAgg59; have zpb := Tryz.sizeOf59; have upb := run_underlying tpb
  have t37 := Tryz.underlying60; have a37 := Tryz.isAgg60; have z37 := Tryz.sizeOf60; have u37 := run_underlying t37
  have t3 := Tryz.underlying3; have a3 := Tryz.isAgg3; have z3 := Tryz.sizeOf3; have u3 := run_underlying t3
  have t9 := Tryz.underlying9; have a9 := Tryz.isAgg9; have z9 := Tryz.sizeOf9; have u9 := run_underlying t9
  have t4 := Tryz.underlying4; have a4 := Tryz.isAgg4; have z4 := Tryz.sizeOf4; have u4 := run_underlying t4
  have t5 := Tryz.underlying5; have a5 := Tryz.isAgg5; have z5 := Tryz.sizeOf5; have u5 := run_underlying t5
  have e240 : ∀ args w, (callFunc 81 args).run Tryz.prog w = .ok (.enter 81 args) w := enters_of Tryz.func81 (by kernel_rfl) rfl
  have e241 : ∀ args w, (callFunc 175 args).run Tryz.prog w = .ok (.enter 175 args) w := enters_of Tryz.func175 (by kernel_rfl) rfl
  go_enter Tryz.func141, Tryz.ntmps141
  have c1' : (w.setCell ⟨b, 0, none⟩ (.pointer (some ⟨b, 0, none⟩))).drew.cell? ⟨b, 1, none⟩ = some (.slice none 0 0) := c1
  go_wp2_with (go_at_fn 81; refine (H.cc_fresh b w (by rw [Lib.cell_of_heap hbk]; rfl) (by simp [World.shape?, hbk]) (Lib.frozen_of_heap hbk 0)).mono ?_; rintro e w' ⟨rfl, rfl⟩)
  go_region_o
  all_goals go_wp2_with (go_at_fn 175; refine (H.grow_fresh b n (w.setCell ⟨b, 0, none⟩ (.pointer (some ⟨b, 0, none⟩))).drew hbk1 hn).mono ?_; rintro e w' ⟨rfl, cs, h1, h2, h3, rfl⟩)
  all_goals first
    | (go_end0; exact ⟨rfl, cs, h1, h2, h3, rfl⟩)
    | (exfalso; omega)
    | trace_state
abbrev H.Grow.ps : Mk := [some (.lf .ptr), some (.lf (.int .i64))]
abbrev H.Grow.rs : Mk := []
def growF (S : List LV) (x : (Nat × Nat) × Int × Unit) : Option (List LV) := match S.getD x.1.1 .any with
  | .obj ty [.nilp, .nilsl] => (match Nat.beq ty H.builderT && (Nat.beq x.1.2 0 && decide (0 < x.2.1 ∧ x.2.1 ≤ 140737488355328)) with
    | true => some (S.set x.1.1 (.obj ty [.ptr x.1.1 0, .own H.byteT 1 []]))
    | false => none)
  | _ => none
def H.Grow.fn (_k : Nat) (x : (Nat × Nat) × Int × Unit) (S : List LV) (K : Unit → List LV → Option R) : Option R := match growF S x with | some S' => K () S' | none => none
def H.Grow.h (k : Nat) : Hd R := hT H.Grow.ps fun x S K => H.Grow.fn k x S fun r S => K (resE H.Grow.rs r) S
theorem H.Grow.calls {S S' : List LV} {x : (Nat × Nat) × Int × Unit} (h : growF S x = some S') : LCalls Tryz.prog 141 (H.Grow.ps.enc x) S (resE H.Grow.rs ()) S' := by
  obtain ⟨⟨id, p⟩, n, u⟩ := x
  unfold growF at h
  split at h
  · rename_i ty hS
    replace hS : S.getD id .any = _ := hS
    split at h
    · rename_i hb
      simp only [Bool.and_eq_true, decide_eq_true_eq] at hb
      have e1 : ty = H.builderT := Nat.eq_of_beq_eq_true hb.1
      have e2 : p = 0 := Nat.eq_of_beq_eq_true hb.2.1
      subst e1; subst e2
      obtain ⟨m, rfl⟩ : ∃ m : Nat, n = (m : Int) := ⟨n.toNat, by omega⟩
      cases h
      exact LCalls.grow hS fun b w hh => (H.Grow_fresh b m w hh (by omega) (by omega)).mono fun en w' ⟨he, cs, _, h2, h3, hw⟩ => ⟨he, cs, by have h4 := h2 (by unfold maxLen; omega); unfold maxLen at h4; omega, h3, hw⟩
    · cases h
  · cases h
theorem H.Grow.ok (k : Nat) : HSound Tryz.prog 141 (H.Grow.h (R := R) k) :=
  hand_okS (enters_ok Tryz.func141 (by kernel_rfl) (by kernel_rfl)) (ps := H.Grow.ps) (rs := H.Grow.rs) (g := fun S x => (growF S x).map fun S' => ((), S')) (fun S x K => by unfold H.Grow.fn; cases growF S x <;> rfl) fun x S r S' h => by
    cases hc : growF S x with
    | none => rw [hc] at h; cases h
    | some S2 => rw [hc] at h; cases h; exact H.Grow.calls hc
end
end Go.Lm
