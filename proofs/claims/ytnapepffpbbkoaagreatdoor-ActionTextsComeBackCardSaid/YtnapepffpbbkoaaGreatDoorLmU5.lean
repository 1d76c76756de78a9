/- Looks at places: the program's and the reference's functions answer alike. -/
import Derived.Test.YtnapepffpbbkoaaGreatDoorLmU4
set_option maxRecDepth 100000
namespace Go.Lm
section
variable {R : Type}
theorem cmp_lt : ∀ (a b : List UInt8), decide (Lib.compareBytes a b < 0) = Op.bytesLess a b
  | [], [] => rfl
  | [], _ :: _ => rfl
  | _ :: _, [] => rfl
  | a :: u, b :: v => by
    simp only [Lib.compareBytes, Op.bytesLess]
    by_cases h : a < b
    · simp [h]
    · by_cases h2 : b < a
      · have : a ≠ b := fun e => by subst e; exact absurd h2 (UInt8.lt_irrefl _)
        simp [h, h2, this]
      · have : a = b := UInt8.le_antisymm (UInt8.not_lt.1 h2) (UInt8.not_lt.1 h)
        simp only [h, h2, if_false, decide_false, Bool.false_or]
        rw [cmp_lt u v, this]
        simp
theorem cmp_eq : ∀ (a b : List UInt8), Lib.compareBytes a b = 0 ↔ a = b
  | [], [] => by simp [Lib.compareBytes]
  | [], _ :: _ => by simp [Lib.compareBytes]
  | _ :: _, [] => by simp [Lib.compareBytes]
  | a :: u, b :: v => by
    simp only [Lib.compareBytes]
    by_cases h : a < b
    · have : a ≠ b := fun e => by subst e; exact absurd h (UInt8.lt_irrefl _)
      simp [h, this]
    · by_cases h2 : b < a
      · have : a ≠ b := fun e => by subst e; exact absurd h2 (UInt8.lt_irrefl _)
        simp [h, h2, this]
      · have : a = b := UInt8.le_antisymm (UInt8.not_lt.1 h2) (UInt8.not_lt.1 h)
        rw [if_neg h, if_neg h2, cmp_eq u v, this]
        simp
theorem cmp_strLt (a b : ByteArray) : decide (Lib.compareBytes a.data.toList b.data.toList < 0) = strLt a b := by rw [cmp_lt, strLt_less]
theorem cmp_strEq (a b : ByteArray) : (Lib.compareBytes a.data.toList b.data.toList == 0) = strEq a b := by
  rw [Bool.eq_iff_iff, beq_iff_eq, cmp_eq, strEq_iff]
  exact ⟨ba_ext, fun e => by rw [e]⟩
theorem mid_at (lo hi : Nat) (h : lo + hi < 9223372036854775807) : IntKind.wrap .i64 (shI .shr .u64 (IntKind.wrap .u64 (IntKind.wrap .i64 ((lo : Int) + (hi : Int)))) 1) = (((lo + hi) / 2 : Nat) : Int) := by
  rw [wrap_id (n := (lo : Int) + hi) (by omega) (by omega), wrap_u64_id (by omega) (by omega)]
  have : shI .shr .u64 ((lo : Int) + hi) 1 = (((lo + hi) / 2 : Nat) : Int) := by
    show Int.fdiv _ (2 ^ (min (1 : Int).toNat 64)) = _
    rw [show ((2 : Int) ^ (min (1 : Int).toNat 64)) = 2 from rfl, Int.fdiv_eq_ediv_of_nonneg _ (by omega)]
    omega
  rw [this, wrap_id (by omega) (by omega)]
theorem prog_search {k : Nat} (hk : Many k) {l : List File} (hl : Rising l) (hn : l.length ≤ 140737488355328) (s : ByteArray) (S : List LV) (K : Int × Bool × Unit → List LV → Option R) :
    ∃ c, (∀ j, j < l.length → (l.getD j .zero).p = s → j = c) ∧ G.slices_BinarySearchFunc_s_api_File_api_File_string_at_action_lookAt_1.fn k (l.map File.lv, s, (), ()) S K = K ((c : Int), (decide (c < l.length) && strEq (l.getD c .zero).p s), ()) S := by
  unfold Many at hk
  obtain ⟨c, h1, h2, h3, h4, huni⟩ := place hl s
  refine ⟨c, huni, ?_⟩
  unfold G.slices_BinarySearchFunc_s_api_File_api_File_string_at_action_lookAt_1.fn
  dsimp only
  rw [List.length_map]
  refine rounds_cut (fun lo hi => (l.map File.lv, s, (), (l.length : Int), (lo : Int), (hi : Int), ())) S l.length c (fun i => strLt (l.getD i .zero).p s) (fun c => K ((c : Int), (decide (c < l.length) && strEq (l.getD c .zero).p s), ()) S) h2 h3 h1 (fun rec lo hi hlt hle => ?_) (fun rec lo => ?_) l.length 0 l.length k (Nat.zero_le _) h1 (Nat.le_refl _) (by omega) (by omega)
  · unfold G.slices_BinarySearchFunc_s_api_File_api_File_string_at_action_lookAt_1.b0
    dsimp only
    rw [lt_nat, ifB_pos hlt, ifB_neg (by decide), mid_at lo hi (by omega), idxL_nat (by simp; omega), file_get _ _ (by omega), File.mat]
    show asStr (.str _) _ = _
    rw [asStr_str]
    show asBool (.bool _) _ = _
    rw [asBool_bool]
    show asSl 1 (File.leaf _) _ = _
    rw [File.sl]
    show ifB (decide (Lib.compareBytes _ _ < 0)) _ _ = _
    rw [cmp_strLt, wrap_succ (by omega)]
    cases strLt (l.getD ((lo + hi) / 2) .zero).p s <;> rfl
  · unfold G.slices_BinarySearchFunc_s_api_File_api_File_string_at_action_lookAt_1.b0
    dsimp only
    rw [lt_nat, ifB_neg (Nat.lt_irrefl _), lt_nat]
    cases hc : decide (lo < l.length) with
    | false => simp
    | true =>
      have hlt := of_decide_eq_true hc
      rw [ifB_true, idxL_nat (by simpa using hlt), file_get _ _ hlt, File.mat]
      show asStr (.str _) _ = _
      rw [asStr_str]
      show asBool (.bool _) _ = _
      rw [asBool_bool]
      show asSl 1 (File.leaf _) _ = _
      rw [File.sl]
      show K (_, (Lib.compareBytes _ _ == 0), ()) S = _
      rw [cmp_strEq, Bool.true_and]

/-! ### One look -/
def atS (l : List File) (p : ByteArray) : Look := scan (fun i => match strEq (l.getD i .zero).p p with | true => some ⟨p, digestS (l.getD i .zero).b, (l.getD i .zero).r⟩ | false => none) ⟨p, bs [], false⟩ l.length 0
def Look.tup (x : Look) : (ByteArray × ByteArray × Bool × Unit) × Unit := ((x.p, x.d, x.r, ()), ())
theorem file_leaf1 (x : File) (K : Bool → Option R) : asBool (leaf x.lv 1) K = K x.r := rfl
theorem file_leaf2 (x : File) (K : List LV → Option R) : asSl 1 (leaf x.lv 2) K = K (bytesL x.b) := by
  show asSl 1 x.leaf K = _
  exact x.sl K
theorem prog_lookAt {k : Nat} (hk : Many k) {l : List File} (hl : Rising l) (ok : FilesOk l) (s : ByteArray) (S : List LV) (K : (ByteArray × ByteArray × Bool × Unit) × Unit → List LV → Option R) : G.action_lookAt.fn k (l.map File.lv, s, ()) S K = K (atS l s).tup S := by
  unfold G.action_lookAt.fn
  dsimp only
  obtain ⟨c, huni, h⟩ := prog_search hk hl ok.n s S (fun r1 S => ifB (!r1.2.1) (K ((s, (bs []), false, ()), ()) S) (idxL (l.map File.lv) r1.1 fun v2 => asSl 1 (leaf v2 2) fun l3 => idxL (l.map File.lv) r1.1 fun v4 => asBool (leaf v4 1) fun b5 => G.blob_Digest.fn k (l3, ()) S fun r6 S => K ((s, r6.1, b5, ()), ()) S))
  rw [h]
  dsimp only
  cases hc : (decide (c < l.length) && strEq (l.getD c .zero).p s) with
  | true =>
    rw [Bool.and_eq_true, decide_eq_true_eq] at hc
    obtain ⟨h1, h2⟩ := hc
    rw [Bool.not_true, ifB_false, idxL_nat (by simpa using h1), file_get _ _ h1, file_leaf2, idxL_nat (by simpa using h1), file_get _ _ h1, file_leaf1, prog_Digest hk _ (ok.b _ (file_mem l c h1))]
    have : atS l s = ⟨s, digestS (l.getD c .zero).b, (l.getD c .zero).r⟩ := by
      unfold atS
      refine scan_some _ _ c _ (Nat.zero_le _) (by omega) (fun m _ hm => ?_) (by rw [h2])
      cases he : strEq (l.getD m .zero).p s with
      | true => have := huni m (by omega) ((strEq_iff _ _).1 he); omega
      | false => rfl
    rw [this]
    rfl
  | false =>
    rw [Bool.not_false, ifB_true]
    have : atS l s = ⟨s, bs [], false⟩ := by
      unfold atS
      refine scan_none _ _ (fun m _ hm => ?_)
      cases he : strEq (l.getD m .zero).p s with
      | true =>
        have hm' : m < l.length := by omega
        obtain rfl := huni m hm' ((strEq_iff _ _).1 he)
        rw [he, decide_eq_true hm'] at hc
        cases hc
      | false => rfl
    rw [this]
    rfl
end
end Go.Lm
