/- Library functions of this seat, by their contracts. -/
import Derived.Test.YtnapepffpbbkoaaGreatDoorLmHb
import Derived.Test.YtnapepffpbbkoaaGreatDoorLmXT
import Derived.Test.YtnapepffpbbkoaaGreatDoorPlain
import Derived.Shelf.Strings.Builder1
import Derived.Lib.AppendIntMem
import Derived.Shelf.Strings.FuncGrows
import Derived.Lib.SmallJoins
set_option maxRecDepth 100000
namespace Go.Lm
open Go.Proofs
section
variable {R : Type}
abbrev H.IndexByte.ps : Mk := [some (.lf .str), some (.lf (.int .u8))]
abbrev H.IndexByte.rs : Mk := [some (.lf (.int .i64))]
def H.IndexByte.fn (_k : Nat) (x : ByteArray × Int × Unit) (S : List LV) (K : Int × Unit → List LV → Option R) : Option R := K ((Lib.indexByte x.1.data.toList x.2.1.toNat.toUInt8 : Int), ()) S
def H.IndexByte.h (k : Nat) : Hd R := hT H.IndexByte.ps fun x S K => H.IndexByte.fn k x S fun r S => K (resE H.IndexByte.rs r) S
theorem H.IndexByte.ok (k : Nat) : HSound Tryz.prog 163 (H.IndexByte.h (R := R) k) :=
  hand_ok (enters_ok Tryz.func163 (by kernel_rfl) (by kernel_rfl)) (ps := H.IndexByte.ps) (rs := H.IndexByte.rs) (g := fun (x : ByteArray × Int × Unit) => some ((Lib.indexByte x.1.data.toList x.2.1.toNat.toUInt8 : Int), ())) fun x r S hr => by
    cases hr
    exact LCalls.same rfl rfl fun w => Tryz.stringslite_IndexByte x.1 x.2.1 w
abbrev H.CompareString.ps : Mk := [some (.lf .str), some (.lf .str)]
abbrev H.CompareString.rs : Mk := [some (.lf (.int .i64))]
def H.CompareString.fn (_k : Nat) (x : ByteArray × ByteArray × Unit) (S : List LV) (K : Int × Unit → List LV → Option R) : Option R := K ((Lib.compareBytes x.1.data.toList x.2.1.data.toList : Int), ()) S
def H.CompareString.h (k : Nat) : Hd R := hT H.CompareString.ps fun x S K => H.CompareString.fn k x S fun r S => K (resE H.CompareString.rs r) S
theorem H.CompareString.ok (k : Nat) : HSound Tryz.prog 162 (H.CompareString.h (R := R) k) :=
  hand_ok (enters_ok Tryz.func162 (by kernel_rfl) (by kernel_rfl)) (ps := H.CompareString.ps) (rs := H.CompareString.rs) (g := fun (x : ByteArray × ByteArray × Unit) => some ((Lib.compareBytes x.1.data.toList x.2.1.data.toList : Int), ())) fun x r S hr => by
    cases hr
    exact LCalls.same rfl rfl fun w => Tryz.bytealg_CompareString x.1 x.2.1 w
abbrev H.genSplit.ps : Mk := [some (.lf .str), some (.lf .str), some (.lf (.int .i64)), some (.lf (.int .i64))]
abbrev H.genSplit.rs : Mk := [some (.lf (.sl 1))]
def splitF (x : ByteArray × ByteArray × Int × Int × Unit) : Option (List LV × Unit) := match decide (x.2.1.size = 1 ∧ x.2.2.1 = 0 ∧ x.2.2.2.1 = -1 ∧ x.1.size < 4294967281) with
  | true => some ((Lib.splitB x.2.1 0 (Lib.countB x.1 x.2.1) x.1).map .str, ())
  | false => none
theorem splitF_some {s sep : ByteArray} {sv n : Int} {u : Unit} {r : List LV × Unit} (h : splitF (s, sep, sv, n, u) = some r) : ∃ b : UInt8, sep = ⟨#[b]⟩ ∧ sv = 0 ∧ n = -1 ∧ s.size < 4294967281 ∧ r = ((Lib.splitB sep 0 (Lib.countB s sep) s).map .str, ()) := by
  simp only [splitF] at h
  split at h
  · rename_i hd
    cases h
    obtain ⟨h1, h2, h3, h4⟩ := of_decide_eq_true hd
    obtain ⟨b, hb⟩ := Lib.one_byte sep h1
    exact ⟨b, hb, h2, h3, h4, rfl⟩
  · cases h
def H.genSplit.fn (_k : Nat) (x : ByteArray × ByteArray × Int × Int × Unit) (S : List LV) (K : List LV × Unit → List LV → Option R) : Option R := handF H.genSplit.ps H.genSplit.rs splitF x S K
def H.genSplit.h (k : Nat) : Hd R := hT H.genSplit.ps fun x S K => H.genSplit.fn k x S fun r S => K (resE H.genSplit.rs r) S
theorem rigids_str : ∀ l : List ByteArray, rigids (l.map LV.str) = some (l.map Value.string)
  | [] => rfl
  | b :: l => by simp only [List.map_cons, rigids, rigid, rigids_str l]
theorem H.genSplit.calls (s : ByteArray) (b : UInt8) (hs : s.size < 4294967281) (w : World) :
    Calls Tryz.prog 138 #[.string s, .string ⟨#[b]⟩, .int .i64 0, .int .i64 (-1)] w fun e w' =>
      e = .returned (.slice (some ⟨w.heap.size, 0, none⟩) (Lib.countB s ⟨#[b]⟩ + 1) (Lib.countB s ⟨#[b]⟩ + 1)) ∧ w' = w.alloc (.cells ((Lib.splitB ⟨#[b]⟩ 0 (Lib.countB s ⟨#[b]⟩) s).map Value.string).toArray (Tryz.lays221_ren.t 9)) := by
  have hle := Lib.countB_le ⟨#[b]⟩ (Nat.le_refl 1) s.size s (Nat.le_refl _)
  have hlen := Lib.splitB_all ⟨#[b]⟩ (Nat.le_refl 1) 0 _ s rfl
  have c := Any.strings_genSplit_core Tryz.lays221 (by kernel_rfl) s ⟨#[b]⟩ 0 (-1) (Lib.countB s ⟨#[b]⟩ + 1) w hs (Nat.le_refl 1) (Nat.zero_le _)
    (fun x c _ => by
      refine (Tryz.strings_Index_one x b _).mono ?_
      rintro e w' ⟨he, hw⟩
      refine ⟨?_, hw⟩
      rw [he]
      show _ = Ending.returned (Value.int .i64 (Lib.index x.data.toList [b]))
      rw [Lib.index_one])
    (by
      refine (Tryz.strings_Count_one s b w).mono ?_
      rintro e w' ⟨he, hw⟩
      refine ⟨?_, hw⟩
      rw [he]
      show _ = Ending.returned (Value.int .i64 ((Lib.count s.data.toList [b] : Nat) : Int))
      rw [Lib.count_one]
      rfl) (by decide) (by decide) (by rw [if_pos (by decide)]; omega)
  rw [Nat.add_sub_cancel, hlen] at c
  have e2 : Lib.cellsOf (Lib.splitB ⟨#[b]⟩ 0 (Lib.countB s ⟨#[b]⟩) s) (Lib.countB s ⟨#[b]⟩ + 1) = ((Lib.splitB ⟨#[b]⟩ 0 (Lib.countB s ⟨#[b]⟩) s).map Value.string).toArray := by rw [← hlen]; exact Lib.cellsOf_full _
  rw [e2] at c
  exact c
theorem H.genSplit.ok (k : Nat) : HSound Tryz.prog 138 (H.genSplit.h (R := R) k) :=
  hand_ok (enters_ok Tryz.func138 (by kernel_rfl) (by kernel_rfl)) (ps := H.genSplit.ps) (rs := H.genSplit.rs) (g := splitF) fun x r S hr => by
    obtain ⟨s, sep, sv, n, u⟩ := x
    obtain ⟨b, rfl, rfl, rfl, hs, rfl⟩ := splitF_some hr
    have hle := Lib.countB_le ⟨#[b]⟩ (Nat.le_refl 1) s.size s (Nat.le_refl _)
    have hlen := Lib.splitB_all ⟨#[b]⟩ (Nat.le_refl 1) 0 _ s rfl
    refine LCalls.row (vals := [.string s, .string ⟨#[b]⟩, .int .i64 0, .int .i64 (-1)]) (us := (Lib.splitB ⟨#[b]⟩ 0 (Lib.countB s ⟨#[b]⟩) s).map Value.string) (e := Tryz.lays221_ren.t 9) rfl (rigids_str _) (by simp) (by rw [List.length_map, hlen]; omega) fun w => ?_
    rw [List.length_map, hlen]
    exact H.genSplit.calls s b hs w
abbrev H.Trim.ps : Mk := [some (.lf .str), some (.lf .str)]
abbrev H.Trim.rs : Mk := [some (.lf .str)]
def trimF (x : ByteArray × ByteArray × Unit) : Option (ByteArray × Unit) := match decide (x.1.size ≤ 9223372036854775807) && decide (x.2.1.size < 4294967281) && x.2.1.data.toList.all (fun b => decide (b.toNat < 128)) with
  | true => some (⟨(Lib.trimS x.1.data.toList x.2.1.data.toList).toArray⟩, ())
  | false => none
def H.Trim.fn (_k : Nat) (x : ByteArray × ByteArray × Unit) (S : List LV) (K : ByteArray × Unit → List LV → Option R) : Option R := handF H.Trim.ps H.Trim.rs trimF x S K
def H.Trim.h (k : Nat) : Hd R := hT H.Trim.ps fun x S K => H.Trim.fn k x S fun r S => K (resE H.Trim.rs r) S
theorem H.Trim.ok (k : Nat) : HSound Tryz.prog 107 (H.Trim.h (R := R) k) :=
  hand_ok (enters_ok Tryz.func107 (by kernel_rfl) (by kernel_rfl)) (ps := H.Trim.ps) (rs := H.Trim.rs) (g := trimF) fun x r S hr => by
    obtain ⟨s, cs, u⟩ := x
    simp only [trimF] at hr
    split at hr
    · rename_i hd
      cases hr
      simp only [Bool.and_eq_true] at hd
      refine LCalls.below (vals := [.string s, .string cs]) (v := .string ⟨(Lib.trimS s.data.toList cs.data.toList).toArray⟩) rfl rfl fun w => ?_
      exact Any.strings_Trim_laid Tryz.lays160 (by kernel_rfl) s cs w (of_decide_eq_true hd.1.1) (of_decide_eq_true hd.1.2) (ascii_of_all hd.2)
    · cases hr
abbrev H.builderT : Nat := 62
abbrev H.byteT : Nat := 5
set_option maxHeartbeats 1000000 in
theorem H.cc_used (b : Nat) (w : World) (h0 : w.cell? ⟨b, 0, none⟩ = some (.pointer (some ⟨b, 0, none⟩))) :
    Calls Tryz.prog 81 #[.pointer (some ⟨b, 0, none⟩)] w fun e w' => e = .returned (.tuple #[]) ∧ w' = w := by
  obtain ⟨j, hj, _⟩ := Option.map_eq_some_iff.1 (show (Tryz.prog.info? 62).map (·.size) = some 2 by kernel_rfl)
  have mixed : Tryz.prog.follows .mixedOrders = true := by kernel_rfl
  have tb := Tryz.underlying62; have ab := Tryz.isAgg62; have zb := Tryz.sizeOf62; have ub := run_underlying tb
  have tpb := Tryz.underlying59; have apb := Tryz.isAgg59; have zpb := Tryz.sizeOf59; have upb := run_underlying tpb
  have tbool := Tryz.underlying4; have abool := Tryz.isAgg4; have zbool := Tryz.sizeOf4; have ubool := run_underlying tbool
  have tus := Tryz.underlying142; have aus := Tryz.isAgg142; have zus := Tryz.sizeOf142; have uus := run_underlying tus
  go_enter Tryz.func81, Tryz.ntmps81
  go_wp2
  rw [Lib.run_neq_ptr_same w _ Tryz.underlying59 hj]
  go_wp2
  go_end0
  exact ⟨rfl, rfl⟩
set_option maxHeartbeats 1000000 in
theorem H.cc_fresh (b : Nat) (w : World) (h0 : w.cell? ⟨b, 0, none⟩ = some (.pointer none)) (hsh : w.shape? b = some (62, 2)) (hfz : w.frozen? ⟨b, 0, none⟩ = false) :
    Calls Tryz.prog 81 #[.pointer (some ⟨b, 0, none⟩)] w fun e w' => e = .returned (.tuple #[]) ∧ w' = w.setCell ⟨b, 0, none⟩ (.pointer (some ⟨b, 0, none⟩)) := by
  obtain ⟨j, hj, hjs⟩ := Option.map_eq_some_iff.1 (show (Tryz.prog.info? 62).map (·.size) = some 2 by kernel_rfl)
  have hlies : liesAt Tryz.prog Tryz.prog.depth 62 (2 / Tryz.prog.cellsOf 62) 0 62 1 = true := by kernel_rfl
  have mixed : Tryz.prog.follows .mixedOrders = true := by kernel_rfl
  have tb := Tryz.underlying62; have ab := Tryz.isAgg62; have zb := Tryz.sizeOf62; have ub := run_underlying tb
  have tpb := Tryz.underlying59; have apb := Tryz.isAgg59; have zpb := Tryz.sizeOf59; have upb := run_underlying tpb
  have tbool := Tryz.underlying4; have abool := Tryz.isAgg4; have zbool := Tryz.sizeOf4; have ubool := run_underlying tbool
  have tus := Tryz.underlying142; have aus := Tryz.isAgg142; have zus := Tryz.sizeOf142; have uus := run_underlying tus
  go_enter Tryz.func81, Tryz.ntmps81
  go_wp2
  rw [Lib.run_to_unsafe w ⟨b, 0, none⟩ Tryz.underlying59 Tryz.underlying142 hj (by rw [hjs]; decide) hsh (Nat.zero_lt_succ 1)]
  simp only [Result.andThen]
  rw [Oper.upon_value]
  go_wp2
  rw [run_callFunc_extern Tryz.func123 (by kernel_rfl) (by kernel_rfl) (by kernel_rfl) (e := Extern.AbiNoEscape.same) (by kernel_rfl)]
  rw [Lib.run_noEscape]
  simp only [Result.andThen]
  rw [Oper.upon_value]
  go_wp2
  rw [Lib.run_from_unsafe w ⟨b, 0, none⟩ Tryz.underlying142 Tryz.underlying59 hj hsh hlies]
  simp only [Result.andThen]
  rw [Oper.upon_value]
  go_wp2
  go_end0
  exact ⟨rfl, rfl⟩
abbrev H.copyCheck.ps : Mk := [some (.lf .ptr)]
abbrev H.copyCheck.rs : Mk := []
def ccF (S : List LV) (x : (Nat × Nat) × Unit) : Option (List LV) := match S.getD x.1.1 .any with
  | .obj ty (c0 :: cs) => (match Nat.beq ty H.builderT && Nat.beq x.1.2 0 && Nat.beq cs.length 1, c0 with
    | true, .nilp => some (S.set x.1.1 (.obj ty (.ptr x.1.1 0 :: cs)))
    | true, .ptr id p => (match Nat.beq id x.1.1 && Nat.beq p 0 with | true => some S | false => none)
    | _, _ => none)
  | _ => none
def H.copyCheck.fn (_k : Nat) (x : (Nat × Nat) × Unit) (S : List LV) (K : Unit → List LV → Option R) : Option R := match ccF S x with | some S' => K () S' | none => none
def H.copyCheck.h (k : Nat) : Hd R := hT H.copyCheck.ps fun x S K => H.copyCheck.fn k x S fun r S => K (resE H.copyCheck.rs r) S
theorem H.copyCheck.calls {S S' : List LV} {x : (Nat × Nat) × Unit} (h : ccF S x = some S') : LCalls Tryz.prog 81 (H.copyCheck.ps.enc x) S (resE H.copyCheck.rs ()) S' := by
  obtain ⟨⟨id, p⟩, u⟩ := x
  unfold ccF at h
  split at h
  · rename_i ty c0 cs hS
    replace hS : S.getD id .any = _ := hS
    split at h
    · rename_i hb
      simp only [Bool.and_eq_true] at hb
      have e1 : ty = H.builderT := Nat.eq_of_beq_eq_true hb.1.1
      have e2 : p = 0 := Nat.eq_of_beq_eq_true hb.1.2
      have e3 := Nat.eq_of_beq_eq_true hb.2
      subst e1; subst e2
      cases h
      exact LCalls.poke hS fun b cur w w' hh hs h0 hw => by
        subst hw
        refine H.cc_fresh b w ?_ (by simp [World.shape?, hh, hs, e3]) (by simp [World.frozen?, hh])
        have : 0 < cur.size := by omega
        simp only [World.cell?, hh]
        simp [Array.getD_eq_getD_getElem?, this] at h0
        simp [this, h0]
    · rename_i hb
      simp only [Bool.and_eq_true] at hb
      have e1 : ty = H.builderT := Nat.eq_of_beq_eq_true hb.1.1
      have e2 : p = 0 := Nat.eq_of_beq_eq_true hb.1.2
      subst e1; subst e2
      split at h
      · rename_i hi
        rw [Bool.and_eq_true] at hi
        have e4 : _ = id := Nat.eq_of_beq_eq_true hi.1
        have e5 := Nat.eq_of_beq_eq_true hi.2
        subst e4; subst e5
        cases h
        exact LCalls.poked hS fun b w h0 => H.cc_used b w h0
      · cases h
    · cases h
  · cases h
theorem H.copyCheck.ok (k : Nat) : HSound Tryz.prog 81 (H.copyCheck.h (R := R) k) :=
  hand_okS (enters_ok Tryz.func81 (by kernel_rfl) (by kernel_rfl)) (ps := H.copyCheck.ps) (rs := H.copyCheck.rs) (g := fun S x => (ccF S x).map fun S' => ((), S')) (fun S x K => by unfold H.copyCheck.fn; cases ccF S x <;> rfl) fun x S r S' h => by
    cases hc : ccF S x with
    | none => rw [hc] at h; cases h
    | some S2 => rw [hc] at h; cases h; exact H.copyCheck.calls hc
set_option maxHeartbeats 1000000 in
theorem H.str_calls (b g cap : Nat) (l : List UInt8) (cur : Array Value) (p : Value) (w : World) (h0 : l ≠ []) (hb : w.heap[b]? = some (.cells #[p, .slice (some ⟨g, 0, none⟩) l.length cap] 62 (0, 0))) (hg : w.heap[g]? = some (.cells cur 5 (0, 0)))
    (hnc : l.length ≤ cap) (hcm : cap ≤ 9223372036854775807) (hcs : cur.size = cap) (hcell : ∀ j x, l[j]? = some x → w.cell? ⟨g, j, none⟩ = some (.int .u8 x.toNat)) :
    Calls Tryz.prog 40 #[.pointer (some ⟨b, 0, none⟩)] w fun e w' => e = .returned (.string ⟨l.toArray⟩) ∧ w' = w.drew.freeze ⟨g, 0, none⟩ l.length := by
  have hl0 : l.length ≠ 0 := by simpa using h0
  have c1 : w.drew.cell? ⟨b, 1, none⟩ = some (.slice (some ⟨g, 0, none⟩) l.length cap) := by
    have : w.drew.heap[b]? = some (.cells #[p, .slice (some ⟨g, 0, none⟩) l.length cap] 62 (0, 0)) := hb
    rw [Lib.cell_of_heap this]; rfl
  have hSD : (Builtin.unsafeSliceData_ #[60] 115 #[.slice (some ⟨g, 0, none⟩) l.length cap]).run Tryz.prog w.drew = .ok (.pointer (some ⟨g, 0, none⟩)) w.drew :=
    Lib.run_unsafeSliceData_row _ _ _ _ _ _ (by omega)
  have hUS : (Builtin.unsafeString_ #[115, 3] 9 #[.pointer (some ⟨g, 0, none⟩), .int .i64 l.length]).run Tryz.prog w.drew = .ok (.string ⟨l.toArray⟩) (w.drew.freeze ⟨g, 0, none⟩ l.length) := by
    refine Lib.run_unsafeString_row w.drew 115 3 9 5 Tryz.underlying115 (by kernel_rfl) g cur.size (by have hg' : w.drew.heap[g]? = some (.cells cur 5 (0, 0)) := hg; simp [World.shape?, hg']) l h0 (by omega) (by omega) ?_
    intro j x hx
    rw [Addr.add_lit, Nat.zero_add]
    exact hcell j x hx
  have mixed : Tryz.prog.follows .mixedOrders = true := by kernel_rfl
  have tb := Tryz.underlying62; have ab := Tryz.isAgg62; have zb := Tryz.sizeOf62; have ub := run_underlying tb
  have tpb := Tryz.underlying59; have apb := Tryz.isAgg59; have zpb := Tryz.sizeOf59; have upb := run_underlying tpb
  have tsb := Tryz.underlying60; have asb := Tryz.isAgg60; have zsb := Tryz.sizeOf60; have usb := run_underlying tsb
  have tpby := Tryz.underlying115; have apby := Tryz.isAgg115; have zpby := Tryz.sizeOf115; have upby := run_underlying tpby
  have tint := Tryz.underlying3; have aint := Tryz.isAgg3; have zint := Tryz.sizeOf3; have uint := run_underlying tint
  have tstr := Tryz.underlying9; have astr := Tryz.isAgg9; have zstr := Tryz.sizeOf9; have ustr := run_underlying tstr
  have tu8 := Tryz.underlying5; have au8 := Tryz.isAgg5; have zu8 := Tryz.sizeOf5; have uu8 := run_underlying tu8
  go_enter Tryz.func40, Tryz.ntmps40
  go_wp2
  go_region_o
  all_goals (go_wp2; go_ret; exact ⟨rfl, rfl⟩)
abbrev H.bString.ps : Mk := [some (.lf .ptr)]
abbrev H.bString.rs : Mk := [some (.lf .str)]
def bsF (S : List LV) (x : (Nat × Nat) × Unit) : Option ((ByteArray × Unit) × List LV) := match S.getD x.1.1 .any with
  | .obj ty [_, .own e z xs] => (match Nat.beq ty H.builderT && Nat.beq x.1.2 0 && Nat.beq e H.byteT && Nat.beq z 1 && !(xs.isEmpty), strB xs with
    | true, some l => some ((⟨l.toArray⟩, ()), S.set x.1.1 .any)
    | _, _ => none)
  | _ => none
def H.bString.fn (_k : Nat) (x : (Nat × Nat) × Unit) (S : List LV) (K : ByteArray × Unit → List LV → Option R) : Option R := match bsF S x with | some r => K r.1 r.2 | none => none
def H.bString.h (k : Nat) : Hd R := hT H.bString.ps fun x S K => H.bString.fn k x S fun r S => K (resE H.bString.rs r) S
theorem H.bString.calls {S S' : List LV} {x : (Nat × Nat) × Unit} {r : ByteArray × Unit} (h : bsF S x = some (r, S')) : LCalls Tryz.prog 40 (H.bString.ps.enc x) S (resE H.bString.rs r) S' := by
  obtain ⟨⟨id, p⟩, u⟩ := x
  unfold bsF at h
  split at h
  · rename_i ty c0 e z xs hS
    replace hS : S.getD id .any = _ := hS
    split at h
    · rename_i l hb hl
      simp only [Bool.and_eq_true] at hb
      have e1 : ty = H.builderT := Nat.eq_of_beq_eq_true hb.1.1.1.1
      have e2 : p = 0 := Nat.eq_of_beq_eq_true hb.1.1.1.2
      have e3 := Nat.eq_of_beq_eq_true hb.1.1.2
      have e4 := Nat.eq_of_beq_eq_true hb.1.2
      subst e1; subst e2; subst e3; subst e4
      cases h
      have h0 : l ≠ [] := fun e => by
        subst e
        have := strB_some _ _ hl
        subst this
        simp at hb
      exact LCalls.bytes hS hl h0 fun b g cap cur p w hb hg h1 h2 h3 h4 => H.str_calls b g cap l cur p w h0 hb hg h1 h2 h3 h4
    · cases h
  · cases h
theorem H.bString.ok (k : Nat) : HSound Tryz.prog 40 (H.bString.h (R := R) k) :=
  hand_okS (enters_ok Tryz.func40 (by kernel_rfl) (by kernel_rfl)) (ps := H.bString.ps) (rs := H.bString.rs) (g := bsF) (fun S x K => by unfold H.bString.fn; cases bsF S x <;> rfl) fun x S r S' h => H.bString.calls h
noncomputable def H.powG : Nat := (Tryz.prog.globalNamed "internal/strconv.uint64pow10").getD 0
theorem H.powG_eq : Tryz.prog.globalNamed "internal/strconv.uint64pow10" = some H.powG := by kernel_rfl
def H.powA : Array Value := (Lib.pow10Tab.map fun z => Value.int .u64 z).toArray
abbrev H.Itoa.ps : Mk := [some (.lf (.int .i64))]
abbrev H.Itoa.rs : Mk := [some (.lf .str)]
def H.ItoaOk (S : List LV) (n : Int) : Prop := HasGlob S H.powG H.powA ∧ -9223372036854775808 ≤ n ∧ n ≤ 9223372036854775807
noncomputable def itoaF (S : List LV) (x : Int × Unit) : Option ((ByteArray × Unit) × List LV) := match (Classical.propDecidable (H.ItoaOk S x.1)).decide with
  | true => some ((⟨(Lib.itoa x.1).toArray⟩, ()), S)
  | false => none
noncomputable def H.Itoa.fn (_k : Nat) (x : Int × Unit) (S : List LV) (K : ByteArray × Unit → List LV → Option R) : Option R := match itoaF S x with | some r => K r.1 r.2 | none => none
noncomputable def H.Itoa.h (k : Nat) : Hd R := hT H.Itoa.ps fun x S K => H.Itoa.fn k x S fun r S => K (resE H.Itoa.rs r) S
theorem H.Itoa.ok (k : Nat) : HSound Tryz.prog 34 (H.Itoa.h (R := R) k) :=
  hand_okS (enters_ok Tryz.func34 (by kernel_rfl) (by kernel_rfl)) (ps := H.Itoa.ps) (rs := H.Itoa.rs) (g := itoaF) (fun S x K => by unfold H.Itoa.fn; cases itoaF S x <;> rfl) fun x S r S' h => by
    obtain ⟨n, u⟩ := x
    unfold itoaF at h
    split at h
    · rename_i hd
      cases h
      obtain ⟨h1, h2, h3⟩ : H.ItoaOk S n := @of_decide_eq_true _ (Classical.propDecidable _) hd
      exact hasGlob_var (vals := [.int .i64 n]) (v := .string ⟨(Lib.itoa n).toArray⟩) h1 rfl rfl fun w e fz hh =>
        (Tryz.strconv_Itoa n h2 h3 w (by unfold Lib.TabIs World.var?; rw [H.powG_eq]; simp only [Option.bind_some, hh]; rfl)).mono fun e w' ⟨he, k, os, hw⟩ => ⟨he, by rw [hw]; exact Lib.below_grow _ w (Nat.le_refl _) k os⟩
    · cases h
abbrev H.Index.ps : Mk := [some (.lf .str), some (.lf .str)]
abbrev H.Index.rs : Mk := [some (.lf (.int .i64))]
def indexF (x : ByteArray × ByteArray × Unit) : Option (Int × Unit) := match x.2.1.data.toList with
  | [c] => some ((Lib.indexByte x.1.data.toList c : Int), ())
  | _ => none
def H.Index.fn (_k : Nat) (x : ByteArray × ByteArray × Unit) (S : List LV) (K : Int × Unit → List LV → Option R) : Option R := handF H.Index.ps H.Index.rs indexF x S K
def H.Index.h (k : Nat) : Hd R := hT H.Index.ps fun x S K => H.Index.fn k x S fun r S => K (resE H.Index.rs r) S
theorem H.Index.ok (k : Nat) : HSound Tryz.prog 137 (H.Index.h (R := R) k) :=
  hand_ok (enters_ok Tryz.func137 (by kernel_rfl) (by kernel_rfl)) (ps := H.Index.ps) (rs := H.Index.rs) (g := indexF) fun x r S hr => by
    obtain ⟨s, ⟨⟨b⟩⟩, u⟩ := x
    unfold indexF at hr
    split at hr
    · rename_i c hc
      replace hc : b = [c] := hc
      subst hc
      cases hr
      exact LCalls.same rfl rfl fun w => Tryz.stringslite_Index_one s c w
    · cases hr
noncomputable def H.errG : Nat := (Tryz.prog.globalNamed "strconv.ErrSyntax").getD 0
theorem H.errG_eq : Tryz.prog.globalNamed "strconv.ErrSyntax" = some H.errG := by kernel_rfl
noncomputable def H.rngG : Nat := (Tryz.prog.globalNamed "strconv.ErrRange").getD 0
theorem H.rngG_eq : Tryz.prog.globalNamed "strconv.ErrRange" = some H.rngG := by kernel_rfl
abbrev H.Atoi.ps : Mk := [some (.lf .str)]
abbrev H.Atoi.rs : Mk := [some (.lf (.int .i64)), some (.lf .raw)]
def H.AtoiErr (S : List LV) (s : ByteArray) : Prop := HasErr S H.errG ∧ HasErr S H.rngG ∧ s.size ≤ 281474976710656
def atoiV (s : ByteArray) : Int := match Lib.atoiAll s.data.toList with
  | .ok v => v
  | .range => Lib.atoiSat s.data.toList
  | _ => 0
noncomputable def atoiF (S : List LV) (x : ByteArray × Unit) : Option ((Int × LV × Unit) × List LV) := match Lib.atoiAll x.1.data.toList with
  | .ok v => (match decide (x.1.size ≤ 9223372036854775806) with
    | true => some ((v, .nili, ()), S)
    | false => none)
  | _ => (match (Classical.propDecidable (H.AtoiErr S x.1)).decide with
    | true => some ((atoiV x.1, .any, ()), S)
    | false => none)
noncomputable def H.Atoi.fn (_k : Nat) (x : ByteArray × Unit) (S : List LV) (K : Int × LV × Unit → List LV → Option R) : Option R := match atoiF S x with | some r => K r.1 r.2 | none => none
noncomputable def H.Atoi.h (k : Nat) : Hd R := hT H.Atoi.ps fun x S K => H.Atoi.fn k x S fun r S => K (resE H.Atoi.rs r) S
theorem H.Atoi.ok (k : Nat) : HSound Tryz.prog 103 (H.Atoi.h (R := R) k) :=
  hand_okS (enters_ok Tryz.func103 (by kernel_rfl) (by kernel_rfl)) (ps := H.Atoi.ps) (rs := H.Atoi.rs) (g := atoiF) (fun S x K => by unfold H.Atoi.fn; cases atoiF S x <;> rfl) fun x S r S' h => by
    obtain ⟨s, u⟩ := x
    unfold atoiF at h
    dsimp only at h
    have two : ∀ (c : Cx) (n : Int) (v : Value), Rep c (.tup [.int .i64 n, .any]) (.tuple #[.int .i64 n, v]) [] := fun c n v =>
      Rep.tup [.int .i64 n, .any] #[.int .i64 n, v] (fun _ => []) rfl fun i hi => by
        match i, hi with
        | 0, _ => exact .int _ _
        | 1, _ => exact .any _
    cases hx : Lib.atoiAll s.data.toList
    · rw [hx] at h
      dsimp only at h
      split at h
      · rename_i hd
        cases h
        refine LCalls.belowX (vals := [.string s]) (I := fun _ => True) rfl (fun _ _ => trivial) fun w _ => ?_
        refine (Any.strconv_Atoi_ok Tryz.laysC172 s (of_decide_eq_true hd) _ hx w).mono ?_
        rintro e w' ⟨he, hw⟩
        refine ⟨⟨_, he, fun c => Rep.tup _ _ (fun _ => []) rfl fun i hi => ?_⟩, ?_⟩
        · match i, hi with
          | 0, _ => exact .int _ _
          | 1, _ => exact .nili
        · rcases hw with rfl | ⟨t, rfl⟩
          · exact RowKit.Below.refl _ _
          · exact Joins.below_bytesWorld _ _ _ _ (Nat.le_refl _)
      · cases h
    · have hv : atoiV s = 0 := by unfold atoiV; rw [hx]
      rw [hx] at h
      dsimp only at h
      split at h
      · rename_i hd
        cases h
        obtain ⟨⟨id, e, fz, tp, p, h1⟩, h2, h3⟩ : H.AtoiErr S s := @of_decide_eq_true _ (Classical.propDecidable _) hd
        rw [hv]
        refine LCalls.belowX (vals := [.string s]) (I := fun w => w.heap[H.errG]? = some (.cells #[.iface tp p] e fz)) rfl (fun c hs => glob_heap h1 hs) fun w hh => ?_
        refine (Any.strconv_Atoi_syntax_var Tryz.laysC172 s h3 hx tp p w (by unfold World.var?; rw [H.errG_eq]; simp only [Option.bind_some, hh])).mono ?_
        rintro e w' ⟨N, he, -, -, hb⟩
        exact ⟨⟨_, he, fun c => two c _ _⟩, hb⟩
      · cases h
    · have hv : atoiV s = Lib.atoiSat s.data.toList := by unfold atoiV; rw [hx]
      rw [hx] at h
      dsimp only at h
      split at h
      · rename_i hd
        cases h
        obtain ⟨h1, ⟨id, e, fz, tp, p, h2⟩, h3⟩ : H.AtoiErr S s := @of_decide_eq_true _ (Classical.propDecidable _) hd
        rw [hv]
        refine LCalls.belowX (vals := [.string s]) (I := fun w => w.heap[H.rngG]? = some (.cells #[.iface tp p] e fz)) rfl (fun c hs => glob_heap h2 hs) fun w hh => ?_
        refine (Any.strconv_Atoi_range_var Tryz.laysC172 s h3 hx tp p w (by unfold World.var?; rw [H.rngG_eq]; simp only [Option.bind_some, hh])).mono ?_
        rintro e w' ⟨N, he, -, -, hb⟩
        exact ⟨⟨_, he, fun c => two c _ _⟩, hb⟩
      · cases h
abbrev H.indexFunc.ps (g : FuncId) : Mk := [some (.lf .str), some (.fn g []), some (.lf .bool)]
abbrev H.indexFunc.rs : Mk := [some (.lf (.int .i64))]
def H.indexFuncOk (hd : Hd Bool) : Prop := ∀ x, x ≤ 1114111 → predA hd x ≠ none
noncomputable def idxFF (hd : Hd Bool) (x : ByteArray × Unit × Bool × Unit) : Option (Int × Unit) := match (Classical.propDecidable (H.indexFuncOk hd)).decide with
  | true => some (Lib.idxFunc (fun x => (predA hd x).getD false) x.2.2.1 x.1, ())
  | false => none
noncomputable def H.indexFunc.fn (hd : Hd Bool) (g : FuncId) (x : ByteArray × Unit × Bool × Unit) (S : List LV) (K : Int × Unit → List LV → Option R) : Option R := handF (H.indexFunc.ps g) H.indexFunc.rs (idxFF hd) x S K
theorem H.indexFunc.ok {g : FuncId} {hd : Hd Bool} (hs : HSound Tryz.prog g hd) (hen : Enters Tryz.prog g) : HSound Tryz.prog 124 (hT (R := R) (H.indexFunc.ps g) fun x S K => H.indexFunc.fn hd g x S fun r S => K (resE H.indexFunc.rs r) S) :=
  hand_ok (enters_ok Tryz.func124 (by kernel_rfl) (by kernel_rfl)) (ps := H.indexFunc.ps g) (rs := H.indexFunc.rs) (g := idxFF hd) fun x r S hr => by
    obtain ⟨s, u1, t, u⟩ := x
    unfold idxFF at hr
    split at hr
    · rename_i hd1
      cases hr
      have hp : H.indexFuncOk hd := @of_decide_eq_true _ (Classical.propDecidable _) hd1
      refine LCalls.of fun c vs o hl hrep hbd => ?_
      obtain ⟨v0, v1, v2, rfl⟩ : ∃ v0 v1 v2, vs = [v0, v1, v2] := by
        match vs, hl with
        | [v0, v1, v2], _ => exact ⟨v0, v1, v2, rfl⟩
      have e0 : v0 = .string s := rep_str (hrep 0 (show 0 < 3 by decide))
      have e2 : v2 = .bool t := rep_bool (hrep 2 (show 2 < 3 by decide))
      have e1 : v1 = .func (.func g) #[] #[] := by
        have h1 : Rep c (.fn g []) v1 (o 1) := hrep 1 (show 1 < 3 by decide)
        generalize o 1 = O at h1
        cases h1 with
        | fn _ _ cs hs _ =>
          have : cs = #[] := Array.eq_empty_of_size_eq_zero (by simpa using hs)
          subst this; rfl
      subst e0; subst e1; subst e2
      refine (Any.strings_indexFunc_grows Tryz.lays315 g #[] hen (fun x => (predA hd x).getD false) t s c.w (fun W x hx _ => ?_)).mono ?_
      · cases hb : predA hd x with
        | none => exact absurd hb (hp x hx)
        | some b =>
          show Calls _ g #[.int .i32 (x : Int)] W fun e w' => e = .returned (.bool ((predA hd x).getD false)) ∧ RowKit.Below W.heap.size W w'
          rw [hb]
          exact pred_of hs hb W
      · rintro e w' ⟨he, hb⟩
        exact ⟨{ c with w := w' }, _, [], he, rfl, ⟨Nat.le_refl _, fun _ _ => rfl, fun _ _ h => h, fun b o h => World.cell?_of_block (w := c.w) (hb.block b (hbd b o h)), hb.size, fun b hlt _ => hb.block b hlt, fun _ _ _ _ h => h, hb.os, hb.tape, hb.output⟩,
          .int _ _, List.nodup_nil, by simp, rfl, fun b p h => Nat.lt_of_lt_of_le (hbd b p h) hb.size⟩
    · cases hr
end
end Go.Lm
