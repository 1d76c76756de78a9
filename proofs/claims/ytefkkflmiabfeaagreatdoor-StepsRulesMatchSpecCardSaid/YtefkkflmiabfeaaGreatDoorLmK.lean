/- Library functions of this seat, by their contracts. -/
import Derived.Test.YtefkkflmiabfeaaGreatDoorLmHb
import Derived.Test.YtefkkflmiabfeaaGreatDoorLmXT
import Derived.Test.YtefkkflmiabfeaaGreatDoorPlain
import Derived.Shelf.Strings.Builder1
import Derived.Lib.AppendIntMem
import Derived.Shelf.Strings.FuncGrows
import Derived.Lib.SmallJoins
set_option linter.unusedVariables false
set_option linter.unusedSimpArgs false
set_option maxRecDepth 100000
namespace Go.Lm
open Go.Proofs
section
variable {R : Type}
abbrev H.IndexByte.ps : Mk := [some (.lf .str), some (.lf (.int .u8))]
abbrev H.IndexByte.rs : Mk := [some (.lf (.int .i64))]
def H.IndexByte.fn (_k : Nat) (x : ByteArray × Int × Unit) (S : List LV) (K : Int × Unit → List LV → Option R) : Option R := K ((Lib.indexByte x.1.data.toList x.2.1.toNat.toUInt8 : Int), ()) S
def H.IndexByte.h (k : Nat) : Hd R := hT H.IndexByte.ps fun x S K => H.IndexByte.fn k x S fun r S => K (resE H.IndexByte.rs r) S
theorem H.IndexByte.ok (k : Nat) : HSound Tryz.prog 185 (H.IndexByte.h (R := R) k) :=
  hand_ok (enters_ok Tryz.func185 (by kernel_rfl) (by kernel_rfl)) (ps := H.IndexByte.ps) (rs := H.IndexByte.rs) (g := fun (x : ByteArray × Int × Unit) => some ((Lib.indexByte x.1.data.toList x.2.1.toNat.toUInt8 : Int), ())) fun x r S hr => by
    cases hr
    exact LCalls.same rfl rfl fun w => Tryz.stringslite_IndexByte x.1 x.2.1 w
abbrev H.CompareString.ps : Mk := [some (.lf .str), some (.lf .str)]
abbrev H.CompareString.rs : Mk := [some (.lf (.int .i64))]
def H.CompareString.fn (_k : Nat) (x : ByteArray × ByteArray × Unit) (S : List LV) (K : Int × Unit → List LV → Option R) : Option R := K ((Lib.compareBytes x.1.data.toList x.2.1.data.toList : Int), ()) S
def H.CompareString.h (k : Nat) : Hd R := hT H.CompareString.ps fun x S K => H.CompareString.fn k x S fun r S => K (resE H.CompareString.rs r) S
theorem H.CompareString.ok (k : Nat) : HSound Tryz.prog 92 (H.CompareString.h (R := R) k) :=
  hand_ok (enters_ok Tryz.func92 (by kernel_rfl) (by kernel_rfl)) (ps := H.CompareString.ps) (rs := H.CompareString.rs) (g := fun (x : ByteArray × ByteArray × Unit) => some ((Lib.compareBytes x.1.data.toList x.2.1.data.toList : Int), ())) fun x r S hr => by
    cases hr
    exact LCalls.same rfl rfl fun w => Tryz.bytealg_CompareString x.1 x.2.1 w
abbrev H.genSplit.ps : Mk := [some (.lf .str), some (.lf .str), some (.lf (.int .i64)), some (.lf (.int .i64))]
abbrev H.genSplit.rs : Mk := [some (.lf (.sl 1))]
def splitF (x : ByteArray × ByteArray × Int × Int × Unit) : Option (List LV × Unit) := match decide (x.2.1.size = 1 ∧ x.2.2.1 = 0 ∧ x.2.2.2.1 = -1 ∧ x.1.size < 4294967281) with
  | true => some ((Lib.splitB x.2.1 0 (Lib.countB x.1 x.2.1) x.1).map .str, ())
  | false => none
theorem splitF_some {s sep : ByteArray} {sv n : Int} {u : Unit} {r : List LV × Unit} (h : splitF (s, sep, sv, n, u) = some r) : ∃ b : UInt8, sep = ⟨#[b]⟩ ∧ sv = 0 ∧ n = -1 ∧ s.size < 4294967281 ∧ r = ((Lib.splitB sep 0 (Lib.countB s sep) s).map .str, ()) := by
  simp only [splitF] at h
  split at h
  · rename_i hd
    cases h
    obtain ⟨h1, h2, h3, h4⟩ := of_decide_eq_true hd
    obtain ⟨b, hb⟩ := Lib.one_byte sep h1
    exact ⟨b, hb, h2, h3, h4, rfl⟩
  · cases h
def H.genSplit.fn (_k : Nat) (x : ByteArray × ByteArray × Int × Int × Unit) (S : List LV) (K : List LV × Unit → List LV → Option R) : Option R := handF H.genSplit.ps H.genSplit.rs splitF x S K
def H.genSplit.h (k : Nat) : Hd R := hT H.genSplit.ps fun x S K => H.genSplit.fn k x S fun r S => K (resE H.genSplit.rs r) S
theorem rigids_str : ∀ l : List ByteArray, rigids (l.map LV.str) = some (l.map Value.string)
  | [] => rfl
  | b :: l => by simp only [List.map_cons, rigids, rigid, rigids_str l]
theorem H.genSplit.calls (s : ByteArray) (b : UInt8) (hs : s.size < 4294967281) (w : World) :
    Calls Tryz.prog 99 #[.string s, .string ⟨#[b]⟩, .int .i64 0, .int .i64 (-1)] w fun e w' =>
      e = .returned (.slice (some ⟨w.heap.size, 0, none⟩) (Lib.countB s ⟨#[b]⟩ + 1) (Lib.countB s ⟨#[b]⟩ + 1)) ∧ w' = w.alloc (.cells ((Lib.splitB ⟨#[b]⟩ 0 (Lib.countB s ⟨#[b]⟩) s).map Value.string).toArray (Tryz.lays221_ren.t 9)) := by
  have hle := Lib.countB_le ⟨#[b]⟩ (Nat.le_refl 1) s.size s (Nat.le_refl _)
  have hlen := Lib.splitB_all ⟨#[b]⟩ (Nat.le_refl 1) 0 _ s rfl
  have c := Any.strings_genSplit_core Tryz.lays221 (by kernel_rfl) s ⟨#[b]⟩ 0 (-1) (Lib.countB s ⟨#[b]⟩ + 1) w hs (Nat.le_refl 1) (Nat.zero_le _)
    (fun x c _ => by
      refine (Tryz.strings_Index_one x b _).mono ?_
      rintro e w' ⟨he, hw⟩
      refine ⟨?_, hw⟩
      rw [he]
      show _ = Ending.returned (Value.int .i64 (Lib.index x.data.toList [b]))
      rw [Lib.index_one])
    (by
      refine (Tryz.strings_Count_one s b w).mono ?_
      rintro e w' ⟨he, hw⟩
      refine ⟨?_, hw⟩
      rw [he]
      show _ = Ending.returned (Value.int .i64 ((Lib.count s.data.toList [b] : Nat) : Int))
      rw [Lib.count_one]
      rfl) (by decide) (by decide) (by rw [if_pos (by decide)]; omega)
  rw [Nat.add_sub_cancel, hlen] at c
  have e2 : Lib.cellsOf (Lib.splitB ⟨#[b]⟩ 0 (Lib.countB s ⟨#[b]⟩) s) (Lib.countB s ⟨#[b]⟩ + 1) = ((Lib.splitB ⟨#[b]⟩ 0 (Lib.countB s ⟨#[b]⟩) s).map Value.string).toArray := by rw [← hlen]; exact Lib.cellsOf_full _
  rw [e2] at c
  exact c
theorem H.genSplit.ok (k : Nat) : HSound Tryz.prog 99 (H.genSplit.h (R := R) k) :=
  hand_ok (enters_ok Tryz.func99 (by kernel_rfl) (by kernel_rfl)) (ps := H.genSplit.ps) (rs := H.genSplit.rs) (g := splitF) fun x r S hr => by
    obtain ⟨s, sep, sv, n, u⟩ := x
    obtain ⟨b, rfl, rfl, rfl, hs, rfl⟩ := splitF_some hr
    have hle := Lib.countB_le ⟨#[b]⟩ (Nat.le_refl 1) s.size s (Nat.le_refl _)
    have hlen := Lib.splitB_all ⟨#[b]⟩ (Nat.le_refl 1) 0 _ s rfl
    refine LCalls.row (vals := [.string s, .string ⟨#[b]⟩, .int .i64 0, .int .i64 (-1)]) (us := (Lib.splitB ⟨#[b]⟩ 0 (Lib.countB s ⟨#[b]⟩) s).map Value.string) (e := Tryz.lays221_ren.t 9) rfl (rigids_str _) (by simp) (by rw [List.length_map, hlen]; omega) fun w => ?_
    rw [List.length_map, hlen]
    exact H.genSplit.calls s b hs w
abbrev H.Trim.ps : Mk := [some (.lf .str), some (.lf .str)]
abbrev H.Trim.rs : Mk := [some (.lf .str)]
def trimF (x : ByteArray × ByteArray × Unit) : Option (ByteArray × Unit) := match decide (x.1.size ≤ 9223372036854775807) && decide (x.2.1.size < 4294967281) && x.2.1.data.toList.all (fun b => decide (b.toNat < 128)) with
  | true => some (⟨(Lib.trimS x.1.data.toList x.2.1.data.toList).toArray⟩, ())
  | false => none
def H.Trim.fn (_k : Nat) (x : ByteArray × ByteArray × Unit) (S : List LV) (K : ByteArray × Unit → List LV → Option R) : Option R := handF H.Trim.ps H.Trim.rs trimF x S K
def H.Trim.h (k : Nat) : Hd R := hT H.Trim.ps fun x S K => H.Trim.fn k x S fun r S => K (resE H.Trim.rs r) S
theorem H.Trim.ok (k : Nat) : HSound Tryz.prog 109 (H.Trim.h (R := R) k) :=
  hand_ok (enters_ok Tryz.func109 (by kernel_rfl) (by kernel_rfl)) (ps := H.Trim.ps) (rs := H.Trim.rs) (g := trimF) fun x r S hr => by
    obtain ⟨s, cs, u⟩ := x
    simp only [trimF] at hr
    split at hr
    · rename_i hd
      cases hr
      simp only [Bool.and_eq_true] at hd
      refine LCalls.below (vals := [.string s, .string cs]) (v := .string ⟨(Lib.trimS s.data.toList cs.data.toList).toArray⟩) rfl rfl fun w => ?_
      exact Any.strings_Trim_laid Tryz.lays160 (by kernel_rfl) s cs w (of_decide_eq_true hd.1.1) (of_decide_eq_true hd.1.2) (ascii_of_all hd.2)
    · cases hr
noncomputable def H.powG : Nat := (Tryz.prog.globalNamed "internal/strconv.uint64pow10").getD 0
theorem H.powG_eq : Tryz.prog.globalNamed "internal/strconv.uint64pow10" = some H.powG := by kernel_rfl
def H.powA : Array Value := (Lib.pow10Tab.map fun z => Value.int .u64 z).toArray
abbrev H.Itoa.ps : Mk := [some (.lf (.int .i64))]
abbrev H.Itoa.rs : Mk := [some (.lf .str)]
def H.ItoaOk (S : List LV) (n : Int) : Prop := HasGlob S H.powG H.powA ∧ -9223372036854775808 ≤ n ∧ n ≤ 9223372036854775807
noncomputable def itoaF (S : List LV) (x : Int × Unit) : Option ((ByteArray × Unit) × List LV) := match (Classical.propDecidable (H.ItoaOk S x.1)).decide with
  | true => some ((⟨(Lib.itoa x.1).toArray⟩, ()), S)
  | false => none
noncomputable def H.Itoa.fn (_k : Nat) (x : Int × Unit) (S : List LV) (K : ByteArray × Unit → List LV → Option R) : Option R := match itoaF S x with | some r => K r.1 r.2 | none => none
noncomputable def H.Itoa.h (k : Nat) : Hd R := hT H.Itoa.ps fun x S K => H.Itoa.fn k x S fun r S => K (resE H.Itoa.rs r) S
theorem H.Itoa.ok (k : Nat) : HSound Tryz.prog 227 (H.Itoa.h (R := R) k) :=
  hand_okS (enters_ok Tryz.func227 (by kernel_rfl) (by kernel_rfl)) (ps := H.Itoa.ps) (rs := H.Itoa.rs) (g := itoaF) (fun S x K => by unfold H.Itoa.fn; cases itoaF S x <;> rfl) fun x S r S' h => by
    obtain ⟨n, u⟩ := x
    unfold itoaF at h
    split at h
    · rename_i hd
      cases h
      obtain ⟨h1, h2, h3⟩ : H.ItoaOk S n := @of_decide_eq_true _ (Classical.propDecidable _) hd
      exact hasGlob_var (vals := [.int .i64 n]) (v := .string ⟨(Lib.itoa n).toArray⟩) h1 rfl rfl fun w e fz hh =>
        (Tryz.strconv_Itoa n h2 h3 w (by unfold Lib.TabIs World.var?; rw [H.powG_eq]; simp only [Option.bind_some, hh]; rfl)).mono fun e w' ⟨he, k, os, hw⟩ => ⟨he, by rw [hw]; exact Lib.below_grow _ w (Nat.le_refl _) k os⟩
    · cases h
abbrev H.Index.ps : Mk := [some (.lf .str), some (.lf .str)]
abbrev H.Index.rs : Mk := [some (.lf (.int .i64))]
def indexF (x : ByteArray × ByteArray × Unit) : Option (Int × Unit) := match x.2.1.data.toList with
  | [c] => some ((Lib.indexByte x.1.data.toList c : Int), ())
  | _ => none
def H.Index.fn (_k : Nat) (x : ByteArray × ByteArray × Unit) (S : List LV) (K : Int × Unit → List LV → Option R) : Option R := handF H.Index.ps H.Index.rs indexF x S K
def H.Index.h (k : Nat) : Hd R := hT H.Index.ps fun x S K => H.Index.fn k x S fun r S => K (resE H.Index.rs r) S
theorem H.Index.ok (k : Nat) : HSound Tryz.prog 184 (H.Index.h (R := R) k) :=
  hand_ok (enters_ok Tryz.func184 (by kernel_rfl) (by kernel_rfl)) (ps := H.Index.ps) (rs := H.Index.rs) (g := indexF) fun x r S hr => by
    obtain ⟨s, ⟨⟨b⟩⟩, u⟩ := x
    unfold indexF at hr
    split at hr
    · rename_i c hc
      replace hc : b = [c] := hc
      subst hc
      cases hr
      exact LCalls.same rfl rfl fun w => Tryz.stringslite_Index_one s c w
    · cases hr
noncomputable def H.errG : Nat := (Tryz.prog.globalNamed "strconv.ErrSyntax").getD 0
theorem H.errG_eq : Tryz.prog.globalNamed "strconv.ErrSyntax" = some H.errG := by kernel_rfl
noncomputable def H.rngG : Nat := (Tryz.prog.globalNamed "strconv.ErrRange").getD 0
theorem H.rngG_eq : Tryz.prog.globalNamed "strconv.ErrRange" = some H.rngG := by kernel_rfl
abbrev H.Atoi.ps : Mk := [some (.lf .str)]
abbrev H.Atoi.rs : Mk := [some (.lf (.int .i64)), some (.lf .raw)]
def H.AtoiErr (S : List LV) (s : ByteArray) : Prop := HasErr S H.errG ∧ HasErr S H.rngG ∧ s.size ≤ 281474976710656
def atoiV (s : ByteArray) : Int := match Lib.atoiAll s.data.toList with
  | .ok v => v
  | .range => Lib.atoiSat s.data.toList
  | _ => 0
noncomputable def atoiF (S : List LV) (x : ByteArray × Unit) : Option ((Int × LV × Unit) × List LV) := match Lib.atoiAll x.1.data.toList with
  | .ok v => (match decide (x.1.size ≤ 9223372036854775806) with
    | true => some ((v, .nili, ()), S)
    | false => none)
  | _ => (match (Classical.propDecidable (H.AtoiErr S x.1)).decide with
    | true => some ((atoiV x.1, .any, ()), S)
    | false => none)
noncomputable def H.Atoi.fn (_k : Nat) (x : ByteArray × Unit) (S : List LV) (K : Int × LV × Unit → List LV → Option R) : Option R := match atoiF S x with | some r => K r.1 r.2 | none => none
noncomputable def H.Atoi.h (k : Nat) : Hd R := hT H.Atoi.ps fun x S K => H.Atoi.fn k x S fun r S => K (resE H.Atoi.rs r) S
theorem H.Atoi.ok (k : Nat) : HSound Tryz.prog 214 (H.Atoi.h (R := R) k) :=
  hand_okS (enters_ok Tryz.func214 (by kernel_rfl) (by kernel_rfl)) (ps := H.Atoi.ps) (rs := H.Atoi.rs) (g := atoiF) (fun S x K => by unfold H.Atoi.fn; cases atoiF S x <;> rfl) fun x S r S' h => by
    obtain ⟨s, u⟩ := x
    unfold atoiF at h
    dsimp only at h
    have two : ∀ (c : Cx) (n : Int) (v : Value), Rep c (.tup [.int .i64 n, .any]) (.tuple #[.int .i64 n, v]) [] := fun c n v =>
      Rep.tup [.int .i64 n, .any] #[.int .i64 n, v] (fun _ => []) rfl fun i hi => by
        match i, hi with
        | 0, _ => exact .int _ _
        | 1, _ => exact .any _
    cases hx : Lib.atoiAll s.data.toList
    · rw [hx] at h
      dsimp only at h
      split at h
      · rename_i hd
        cases h
        refine LCalls.belowX (vals := [.string s]) (I := fun _ => True) rfl (fun _ _ => trivial) fun w _ => ?_
        refine (Any.strconv_Atoi_ok Tryz.laysC172 s (of_decide_eq_true hd) _ hx w).mono ?_
        rintro e w' ⟨he, hw⟩
        refine ⟨⟨_, he, fun c => Rep.tup _ _ (fun _ => []) rfl fun i hi => ?_⟩, ?_⟩
        · match i, hi with
          | 0, _ => exact .int _ _
          | 1, _ => exact .nili
        · rcases hw with rfl | ⟨t, rfl⟩
          · exact RowKit.Below.refl _ _
          · exact Joins.below_bytesWorld _ _ _ _ (Nat.le_refl _)
      · cases h
    · have hv : atoiV s = 0 := by unfold atoiV; rw [hx]
      rw [hx] at h
      dsimp only at h
      split at h
      · rename_i hd
        cases h
        obtain ⟨⟨id, e, fz, tp, p, h1⟩, h2, h3⟩ : H.AtoiErr S s := @of_decide_eq_true _ (Classical.propDecidable _) hd
        rw [hv]
        refine LCalls.belowX (vals := [.string s]) (I := fun w => w.heap[H.errG]? = some (.cells #[.iface tp p] e fz)) rfl (fun c hs => glob_heap h1 hs) fun w hh => ?_
        refine (Any.strconv_Atoi_syntax_var Tryz.laysC172 s h3 hx tp p w (by unfold World.var?; rw [H.errG_eq]; simp only [Option.bind_some, hh])).mono ?_
        rintro e w' ⟨N, he, -, -, hb⟩
        exact ⟨⟨_, he, fun c => two c _ _⟩, hb⟩
      · cases h
    · have hv : atoiV s = Lib.atoiSat s.data.toList := by unfold atoiV; rw [hx]
      rw [hx] at h
      dsimp only at h
      split at h
      · rename_i hd
        cases h
        obtain ⟨h1, ⟨id, e, fz, tp, p, h2⟩, h3⟩ : H.AtoiErr S s := @of_decide_eq_true _ (Classical.propDecidable _) hd
        rw [hv]
        refine LCalls.belowX (vals := [.string s]) (I := fun w => w.heap[H.rngG]? = some (.cells #[.iface tp p] e fz)) rfl (fun c hs => glob_heap h2 hs) fun w hh => ?_
        refine (Any.strconv_Atoi_range_var Tryz.laysC172 s h3 hx tp p w (by unfold World.var?; rw [H.rngG_eq]; simp only [Option.bind_some, hh])).mono ?_
        rintro e w' ⟨N, he, -, -, hb⟩
        exact ⟨⟨_, he, fun c => two c _ _⟩, hb⟩
      · cases h
abbrev H.indexFunc.ps (g : FuncId) : Mk := [some (.lf .str), some (.fn g []), some (.lf .bool)]
abbrev H.indexFunc.rs : Mk := [some (.lf (.int .i64))]
def H.indexFuncOk (hd : Hd Bool) : Prop := ∀ x, x ≤ 1114111 → predA hd x ≠ none
noncomputable def idxFF (hd : Hd Bool) (x : ByteArray × Unit × Bool × Unit) : Option (Int × Unit) := match (Classical.propDecidable (H.indexFuncOk hd)).decide with
  | true => some (Lib.idxFunc (fun x => (predA hd x).getD false) x.2.2.1 x.1, ())
  | false => none
noncomputable def H.indexFunc.fn (hd : Hd Bool) (g : FuncId) (x : ByteArray × Unit × Bool × Unit) (S : List LV) (K : Int × Unit → List LV → Option R) : Option R := handF (H.indexFunc.ps g) H.indexFunc.rs (idxFF hd) x S K
theorem H.indexFunc.ok {g : FuncId} {hd : Hd Bool} (hs : HSound Tryz.prog g hd) (hen : Enters Tryz.prog g) : HSound Tryz.prog 201 (hT (R := R) (H.indexFunc.ps g) fun x S K => H.indexFunc.fn hd g x S fun r S => K (resE H.indexFunc.rs r) S) :=
  hand_ok (enters_ok Tryz.func201 (by kernel_rfl) (by kernel_rfl)) (ps := H.indexFunc.ps g) (rs := H.indexFunc.rs) (g := idxFF hd) fun x r S hr => by
    obtain ⟨s, u1, t, u⟩ := x
    unfold idxFF at hr
    split at hr
    · rename_i hd1
      cases hr
      have hp : H.indexFuncOk hd := @of_decide_eq_true _ (Classical.propDecidable _) hd1
      refine LCalls.of fun c vs o hl hrep hbd => ?_
      obtain ⟨v0, v1, v2, rfl⟩ : ∃ v0 v1 v2, vs = [v0, v1, v2] := by
        match vs, hl with
        | [v0, v1, v2], _ => exact ⟨v0, v1, v2, rfl⟩
      have e0 : v0 = .string s := rep_str (hrep 0 (show 0 < 3 by decide))
      have e2 : v2 = .bool t := rep_bool (hrep 2 (show 2 < 3 by decide))
      have e1 : v1 = .func (.func g) #[] #[] := by
        have h1 : Rep c (.fn g []) v1 (o 1) := hrep 1 (show 1 < 3 by decide)
        generalize o 1 = O at h1
        cases h1 with
        | fn _ _ cs hs _ =>
          have : cs = #[] := Array.eq_empty_of_size_eq_zero (by simpa using hs)
          subst this; rfl
      subst e0; subst e1; subst e2
      refine (Any.strings_indexFunc_grows Tryz.lays315 g #[] hen (fun x => (predA hd x).getD false) t s c.w (fun W x hx _ => ?_)).mono ?_
      · cases hb : predA hd x with
        | none => exact absurd hb (hp x hx)
        | some b =>
          show Calls _ g #[.int .i32 (x : Int)] W fun e w' => e = .returned (.bool ((predA hd x).getD false)) ∧ RowKit.Below W.heap.size W w'
          rw [hb]
          exact pred_of hs hb W
      · rintro e w' ⟨he, hb⟩
        exact ⟨{ c with w := w' }, _, [], he, rfl, ⟨Nat.le_refl _, fun _ _ => rfl, fun _ _ h => h, fun b o h => World.cell?_of_block (w := c.w) (hb.block b (hbd b o h)), hb.size, fun b hlt _ => hb.block b hlt, fun _ _ _ _ h => h, (fun _ _ _ _ h _ => False.elim h), hb.os, hb.tape, hb.output⟩,
          .int _ _, List.nodup_nil, by simp, rfl, fun b p h => Nat.lt_of_lt_of_le (hbd b p h) hb.size⟩
    · cases hr
end
end Go.Lm
