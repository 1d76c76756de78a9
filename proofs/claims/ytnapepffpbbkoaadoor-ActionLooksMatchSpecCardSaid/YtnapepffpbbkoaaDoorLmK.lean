/- Library functions of this seat, by their contracts. -/
import Derived.Test.YtnapepffpbbkoaaDoorLmP
import Derived.Test.YtnapepffpbbkoaaDoorLmXT
import Derived.Test.YtnapepffpbbkoaaDoorPlain
set_option maxRecDepth 100000
namespace Go.Lm
open Go.Proofs
section
variable {R : Type}
abbrev H.IndexByte.ps : Mk := [some (.lf .str), some (.lf (.int .u8))]
abbrev H.IndexByte.rs : Mk := [some (.lf (.int .i64))]
def H.IndexByte.fn (_k : Nat) (x : ByteArray × Int × Unit) (S : List LV) (K : Int × Unit → List LV → Option R) : Option R := K ((Lib.indexByte x.1.data.toList x.2.1.toNat.toUInt8 : Int), ()) S
def H.IndexByte.h (k : Nat) : Hd R := hT H.IndexByte.ps fun x S K => H.IndexByte.fn k x S fun r S => K (resE H.IndexByte.rs r) S
theorem H.IndexByte.ok (k : Nat) : HSound Tryd.prog 65 (H.IndexByte.h (R := R) k) :=
  hand_ok (enters_ok Tryd.func65 (by kernel_rfl) (by kernel_rfl)) (ps := H.IndexByte.ps) (rs := H.IndexByte.rs) (g := fun (x : ByteArray × Int × Unit) => some ((Lib.indexByte x.1.data.toList x.2.1.toNat.toUInt8 : Int), ())) fun x r S hr => by
    cases hr
    exact LCalls.same rfl rfl fun w => Tryd.stringslite_IndexByte x.1 x.2.1 w
abbrev H.CompareString.ps : Mk := [some (.lf .str), some (.lf .str)]
abbrev H.CompareString.rs : Mk := [some (.lf (.int .i64))]
def H.CompareString.fn (_k : Nat) (x : ByteArray × ByteArray × Unit) (S : List LV) (K : Int × Unit → List LV → Option R) : Option R := K ((Lib.compareBytes x.1.data.toList x.2.1.data.toList : Int), ()) S
def H.CompareString.h (k : Nat) : Hd R := hT H.CompareString.ps fun x S K => H.CompareString.fn k x S fun r S => K (resE H.CompareString.rs r) S
theorem H.CompareString.ok (k : Nat) : HSound Tryd.prog 39 (H.CompareString.h (R := R) k) :=
  hand_ok (enters_ok Tryd.func39 (by kernel_rfl) (by kernel_rfl)) (ps := H.CompareString.ps) (rs := H.CompareString.rs) (g := fun (x : ByteArray × ByteArray × Unit) => some ((Lib.compareBytes x.1.data.toList x.2.1.data.toList : Int), ())) fun x r S hr => by
    cases hr
    exact LCalls.same rfl rfl fun w => Tryd.bytealg_CompareString x.1 x.2.1 w
abbrev H.genSplit.ps : Mk := [some (.lf .str), some (.lf .str), some (.lf (.int .i64)), some (.lf (.int .i64))]
abbrev H.genSplit.rs : Mk := [some (.lf (.sl 1))]
def splitF (x : ByteArray × ByteArray × Int × Int × Unit) : Option (List LV × Unit) := match decide (x.2.1.size = 1 ∧ x.2.2.1 = 0 ∧ x.2.2.2.1 = -1 ∧ x.1.size < 4294967281) with
  | true => some ((Lib.splitB x.2.1 0 (Lib.countB x.1 x.2.1) x.1).map .str, ())
  | false => none
theorem splitF_some {s sep : ByteArray} {sv n : Int} {u : Unit} {r : List LV × Unit} (h : splitF (s, sep, sv, n, u) = some r) : ∃ b : UInt8, sep = ⟨#[b]⟩ ∧ sv = 0 ∧ n = -1 ∧ s.size < 4294967281 ∧ r = ((Lib.splitB sep 0 (Lib.countB s sep) s).map .str, ()) := by
  simp only [splitF] at h
  split at h
  · rename_i hd
    cases h
    obtain ⟨h1, h2, h3, h4⟩ := of_decide_eq_true hd
    obtain ⟨b, hb⟩ := Lib.one_byte sep h1
    exact ⟨b, hb, h2, h3, h4, rfl⟩
  · cases h
def H.genSplit.fn (_k : Nat) (x : ByteArray × ByteArray × Int × Int × Unit) (S : List LV) (K : List LV × Unit → List LV → Option R) : Option R := handF H.genSplit.ps H.genSplit.rs splitF x S K
def H.genSplit.h (k : Nat) : Hd R := hT H.genSplit.ps fun x S K => H.genSplit.fn k x S fun r S => K (resE H.genSplit.rs r) S
theorem rigids_str : ∀ l : List ByteArray, rigids (l.map LV.str) = some (l.map Value.string)
  | [] => rfl
  | b :: l => by simp only [List.map_cons, rigids, rigid, rigids_str l]
theorem H.genSplit.calls (s : ByteArray) (b : UInt8) (hs : s.size < 4294967281) (w : World) :
    Calls Tryd.prog 43 #[.string s, .string ⟨#[b]⟩, .int .i64 0, .int .i64 (-1)] w fun e w' =>
      e = .returned (.slice (some ⟨w.heap.size, 0, none⟩) (Lib.countB s ⟨#[b]⟩ + 1) (Lib.countB s ⟨#[b]⟩ + 1)) ∧ w' = w.alloc (.cells ((Lib.splitB ⟨#[b]⟩ 0 (Lib.countB s ⟨#[b]⟩) s).map Value.string).toArray (Tryd.lays221_ren.t 9)) := by
  have hle := Lib.countB_le ⟨#[b]⟩ (Nat.le_refl 1) s.size s (Nat.le_refl _)
  have hlen := Lib.splitB_all ⟨#[b]⟩ (Nat.le_refl 1) 0 _ s rfl
  have c := Any.strings_genSplit_core Tryd.lays221 (by kernel_rfl) s ⟨#[b]⟩ 0 (-1) (Lib.countB s ⟨#[b]⟩ + 1) w hs (Nat.le_refl 1) (Nat.zero_le _)
    (fun x c _ => by
      refine (Tryd.strings_Index_one x b _).mono ?_
      rintro e w' ⟨he, hw⟩
      refine ⟨?_, hw⟩
      rw [he]
      show _ = Ending.returned (Value.int .i64 (Lib.index x.data.toList [b]))
      rw [Lib.index_one])
    (by
      refine (Tryd.strings_Count_one s b w).mono ?_
      rintro e w' ⟨he, hw⟩
      refine ⟨?_, hw⟩
      rw [he]
      show _ = Ending.returned (Value.int .i64 ((Lib.count s.data.toList [b] : Nat) : Int))
      rw [Lib.count_one]
      rfl) (by decide) (by decide) (by rw [if_pos (by decide)]; omega)
  rw [Nat.add_sub_cancel, hlen] at c
  have e2 : Lib.cellsOf (Lib.splitB ⟨#[b]⟩ 0 (Lib.countB s ⟨#[b]⟩) s) (Lib.countB s ⟨#[b]⟩ + 1) = ((Lib.splitB ⟨#[b]⟩ 0 (Lib.countB s ⟨#[b]⟩) s).map Value.string).toArray := by rw [← hlen]; exact Lib.cellsOf_full _
  rw [e2] at c
  exact c
theorem H.genSplit.ok (k : Nat) : HSound Tryd.prog 43 (H.genSplit.h (R := R) k) :=
  hand_ok (enters_ok Tryd.func43 (by kernel_rfl) (by kernel_rfl)) (ps := H.genSplit.ps) (rs := H.genSplit.rs) (g := splitF) fun x r S hr => by
    obtain ⟨s, sep, sv, n, u⟩ := x
    obtain ⟨b, rfl, rfl, rfl, hs, rfl⟩ := splitF_some hr
    have hle := Lib.countB_le ⟨#[b]⟩ (Nat.le_refl 1) s.size s (Nat.le_refl _)
    have hlen := Lib.splitB_all ⟨#[b]⟩ (Nat.le_refl 1) 0 _ s rfl
    refine LCalls.row (vals := [.string s, .string ⟨#[b]⟩, .int .i64 0, .int .i64 (-1)]) (us := (Lib.splitB ⟨#[b]⟩ 0 (Lib.countB s ⟨#[b]⟩) s).map Value.string) (e := Tryd.lays221_ren.t 9) rfl (rigids_str _) (by simp) (by rw [List.length_map, hlen]; omega) fun w => ?_
    rw [List.length_map, hlen]
    exact H.genSplit.calls s b hs w
abbrev H.Trim.ps : Mk := [some (.lf .str), some (.lf .str)]
abbrev H.Trim.rs : Mk := [some (.lf .str)]
def trimF (x : ByteArray × ByteArray × Unit) : Option (ByteArray × Unit) := match decide (x.1.size ≤ 9223372036854775807) && decide (x.2.1.size < 4294967281) && x.2.1.data.toList.all (fun b => decide (b.toNat < 128)) with
  | true => some (⟨(Lib.trimS x.1.data.toList x.2.1.data.toList).toArray⟩, ())
  | false => none
def H.Trim.fn (_k : Nat) (x : ByteArray × ByteArray × Unit) (S : List LV) (K : ByteArray × Unit → List LV → Option R) : Option R := handF H.Trim.ps H.Trim.rs trimF x S K
def H.Trim.h (k : Nat) : Hd R := hT H.Trim.ps fun x S K => H.Trim.fn k x S fun r S => K (resE H.Trim.rs r) S
theorem H.Trim.ok (k : Nat) : HSound Tryd.prog 35 (H.Trim.h (R := R) k) :=
  hand_ok (enters_ok Tryd.func35 (by kernel_rfl) (by kernel_rfl)) (ps := H.Trim.ps) (rs := H.Trim.rs) (g := trimF) fun x r S hr => by
    obtain ⟨s, cs, u⟩ := x
    simp only [trimF] at hr
    split at hr
    · rename_i hd
      cases hr
      simp only [Bool.and_eq_true] at hd
      refine LCalls.below (vals := [.string s, .string cs]) (v := .string ⟨(Lib.trimS s.data.toList cs.data.toList).toArray⟩) rfl rfl fun w => ?_
      exact Any.strings_Trim_laid Tryd.lays160 (by kernel_rfl) s cs w (of_decide_eq_true hd.1.1) (of_decide_eq_true hd.1.2) (ascii_of_all hd.2)
    · cases hr
end
end Go.Lm
