/- Digests: the program's and the reference's functions answer alike. -/
import Derived.Test.YtnapepffpbbkoaaGreatDoorLmU3
set_option maxRecDepth 100000
namespace Go.Lm
section
variable {R : Type}
theorem bytes_get (b : ByteArray) (i : Nat) (h : i < b.size) : (bytesL b).getD i .any = .int .u8 (bt b i) := by
  have h2 : i < b.data.toList.length := by rw [ba_len]; exact h
  unfold bytesL
  rw [List.getD_eq_getElem?_getD, List.getElem?_map, List.getElem?_eq_getElem h2, bt_nat h]
  rfl
def fnvAt (b : ByteArray) : Nat → Int
  | 0 => 14695981039346656037
  | i + 1 => IntKind.wrap .u64 ((bitI .xor .u64 (fnvAt b i) (IntKind.wrap .u64 (bt b i))) * (1099511628211 : Int))
theorem wrap_u64_lt (n : Int) : 0 ≤ IntKind.wrap .u64 n ∧ IntKind.wrap .u64 n < 18446744073709551616 := by
  rw [show IntKind.wrap .u64 n = n.emod 18446744073709551616 from rfl]
  exact ⟨Int.emod_nonneg _ (by decide), Int.emod_lt_of_pos _ (by decide)⟩
theorem wrap_u64_id {n : Int} (h0 : 0 ≤ n) (h : n < 18446744073709551616) : IntKind.wrap .u64 n = n := by
  rw [show IntKind.wrap .u64 n = n.emod 18446744073709551616 from rfl]
  exact Int.emod_eq_of_lt h0 h
def fnvN (b : ByteArray) : Nat := (fnvAt b b.size).toNat
theorem fnvN_eq (b : ByteArray) : fnvAt b b.size = (fnvN b : Int) ∧ fnvN b < 18446744073709551616 := by
  have : 0 ≤ fnvAt b b.size ∧ fnvAt b b.size < 18446744073709551616 := by
    generalize b.size = n
    cases n with
    | zero => simp [fnvAt]
    | succ i => exact wrap_u64_lt _
  unfold fnvN
  omega
def nib (h j : Nat) : Nat := h / 16 ^ j % 16
def hexU (n : Nat) : UInt8 := ([48, 49, 50, 51, 52, 53, 54, 55, 56, 57, 97, 98, 99, 100, 101, 102] : List UInt8).getD n 0
def digestS (b : ByteArray) : ByteArray := ⟨((List.range 16).map fun m => hexU (nib (fnvN b) (15 - m))).toArray⟩
abbrev HX : ByteArray := bs [48, 49, 50, 51, 52, 53, 54, 55, 56, 57, 97, 98, 99, 100, 101, 102]
theorem HX_bt (n : Nat) (h : n < 16) : bt HX n = ((hexU n).toNat : Int) := by
  have : ∀ m : Fin 16, bt HX m.val = ((hexU m.val).toNat : Int) := by decide +kernel
  exact this ⟨n, h⟩
theorem HX_cut (n : Nat) (h : n < 16) : HX.extract n (n + 1) = ⟨#[hexU n]⟩ := by
  have : ∀ m : Fin 16, HX.extract m.val (m.val + 1) = ⟨#[hexU m.val]⟩ := by decide +kernel
  exact this ⟨n, h⟩
theorem shr4 (h j : Nat) : shI .shr .u64 ((h / 16 ^ j : Nat) : Int) 4 = ((h / 16 ^ (j + 1) : Nat) : Int) := by
  show Int.fdiv _ (2 ^ (min (4 : Int).toNat 64)) = _
  rw [show ((2 : Int) ^ (min (4 : Int).toNat 64)) = ((16 : Nat) : Int) from rfl]
  rw [Int.fdiv_eq_ediv_of_nonneg _ (by omega), Nat.pow_succ, ← Nat.div_div_eq_div_mul]
  omega
theorem and15 (n : Nat) (h : n < 18446744073709551616) : bitI .and .u64 (n : Int) 15 = ((n % 16 : Nat) : Int) := by
  show IntKind.wrap .u64 ((BitVec.ofInt 64 (n : Int) &&& BitVec.ofInt 64 15).toNat : Int) = _
  have e : (BitVec.ofInt 64 (n : Int) &&& BitVec.ofInt 64 15).toNat = n % 16 := by
    rw [BitVec.toNat_and]
    have h1 : (BitVec.ofInt 64 (n : Int)).toNat = n := by
      rw [BitVec.toNat_ofInt]; omega
    have h2 : (BitVec.ofInt 64 (15 : Int)).toNat = 15 := by decide
    rw [h1, h2, show (15 : Nat) = 2 ^ 4 - 1 from rfl, Nat.and_two_pow_sub_one_eq_mod]
  rw [e, wrap_u64_id (by omega) (by omega)]
theorem nib_lt (h j : Nat) : nib h j < 16 := Nat.mod_lt _ (by decide)
def strT (h t : Nat) : ByteArray := ⟨((List.range t).map fun m => hexU (nib h (15 - m))).toArray⟩
theorem ba_app (a b : List UInt8) : (⟨a.toArray⟩ : ByteArray) ++ ⟨b.toArray⟩ = ⟨(a ++ b).toArray⟩ := by
  apply ba_ext
  simp
theorem strT_succ (h t : Nat) : strT h t ++ ⟨#[hexU (nib h (15 - t))]⟩ = strT h (t + 1) := by
  unfold strT
  rw [show (#[hexU (nib h (15 - t))] : Array UInt8) = [hexU (nib h (15 - t))].toArray from rfl, ba_app, List.range_succ, List.map_append]
  rfl
def cellsD (h i : Nat) : List LV := (List.range 16).map fun m => match decide (15 - m < i) with | true => .int .u8 ((hexU (nib h (15 - m))).toNat : Int) | false => .int .u8 0
theorem cellsD_set (h i : Nat) (hi : i < 16) : (cellsD h i).set (15 - i) (.int .u8 ((hexU (nib h i)).toNat : Int)) = cellsD h (i + 1) := by
  apply List.ext_getElem?
  intro m
  unfold cellsD
  rw [List.getElem?_set]
  simp only [List.length_map, List.length_range, List.getElem?_map]
  by_cases hm : m < 16
  · rw [List.getElem?_range hm]
    simp only [Option.map_some]
    by_cases e : 15 - i = m
    · subst e
      rw [if_pos rfl, if_pos (by omega), show 15 - (15 - i) = i by omega, decide_eq_true (by omega : i < i + 1)]
    · rw [if_neg e]
      have : decide (15 - m < i) = decide (15 - m < i + 1) := by
        rw [Bool.eq_iff_iff]; simp; omega
      rw [this]
  · rw [List.getElem?_eq_none (by simp; omega)]
    simp only [Option.map_none]
    split
    · rename_i e; omega
    · rfl
theorem objAt_at {S T : List LV} {ty : Nat} {xs : List LV} (K : Nat → List LV → Option R) : objAt (S ++ .obj ty xs :: T) S.length K = K ty xs := by
  unfold objAt
  have : (S ++ LV.obj ty xs :: T).getD S.length .any = .obj ty xs := by simp [List.getD_eq_getElem?_getD]
  rw [this]
theorem strL_hex (l : List UInt8) : strL (l.map fun b => LV.int .u8 (b.toNat : Int)) = some l := by
  induction l with
  | nil => rfl
  | cons b l ih => simp only [List.map_cons, strL, ih, Option.map_some, Int.toNat_natCast, UInt8.ofNat_toNat]
theorem prog_Digest0 {k : Nat} (hk : Many k) (b : ByteArray) (hb : b.size ≤ 140737488355328) (S : List LV) : ∃ G', ∀ {R : Type} (K : ByteArray × Unit → List LV → Option R), G.blob_Digest.fn0 k (bytesL b, ()) S K = K (digestS b, ()) (S ++ G') := by
  have hk' := hk
  unfold Many at hk'
  refine ⟨[.any], fun {R} K => ?_⟩
  unfold G.blob_Digest.fn0
  dsimp only
  rw [bytesL_len]
  obtain ⟨he, hlt⟩ := fnvN_eq b
  refine (rounds_scan0 (fun i => (fnvAt b i, bytesL b, (b.size : Int), (i : Int), ())) S b.size k (fun _ => none) (K (digestS b, ()) (S ++ [.any])) (fun rec i hi => ?_) (fun rec => ?_) (by omega)).trans (scan_none _ _ (fun _ _ _ => rfl))
  · unfold G.blob_Digest.b0
    dsimp only
    rw [lt_nat, ifB_pos hi, idxL_nat (by rw [bytesL_len]; exact hi), bytes_get b i hi]
    show asInt .u8 (.int .u8 _) _ = _
    rw [asInt_int, wrap_succ (by omega)]
    rfl
  · unfold G.blob_Digest.b0
    dsimp only
    rw [lt_nat, ifB_neg (Nat.lt_irrefl _), ifB_pos rfl]
    have hmk : ∀ (K' : Nat → Option R), mkN 16 1 K' = K' 16 := fun K' => rfl
    rw [hmk]
    unfold newObj
    rw [he]
    generalize hH : fnvN b = H at *
    have hz : zeros 16 [LV.int .u8 0] = cellsD H 0 := rfl
    rw [hz]
    refine (rounds_scan (fun i => (((H / 16 ^ i : Nat) : Int), (S.length, 0, 16), ((16 : Nat) : Int), (i : Int), ())) (fun i => S ++ [.obj tyU8 (cellsD H i)]) 16 (fun _ => none) (K (digestS b, ()) (S ++ [.any])) (fun rec i hi => ?_) (fun rec => ?_) 16 0 k (by omega) (by omega)).trans (scan_none _ _ (fun _ _ _ => rfl)) |> Eq.trans (by rw [Nat.pow_zero, Nat.div_one]; rfl)
    · unfold G.blob_Digest.b1
      dsimp only
      have hlt' : H / 16 ^ i < 18446744073709551616 := Nat.lt_of_le_of_lt (Nat.div_le_self _ _) hlt
      have hn := nib_lt H i
      rw [lt_nat, ifB_pos hi, and15 _ hlt']
      have hs : HX.size = 16 := by decide
      have h1 : ∀ (K' : Int → Option R), idxStr HX ((H / 16 ^ i % 16 : Nat) : Int) K' = K' ((hexU (nib H i)).toNat : Int) := fun K' => by
        rw [idxStr_nat (by rw [hs]; exact hn)]
        show K' (bt HX (nib H i)) = _
        rw [HX_bt _ hn]
      rw [h1]
      have h2 : ∀ (K' : Nat → Option R), idxN 16 (IntKind.wrap .i64 (15 - (i : Int))) K' = K' (15 - i) := fun K' => by
        unfold idxN
        rw [wrap_id (by omega) (by omega), ifB_pos ⟨by omega, by omega⟩, show (15 - (i : Int)).toNat = 15 - i by omega]
      rw [h2, objAt_at]
      have h3 : ∀ (K' : List LV → Option R), stO (cellsD H i) (0 + (15 - i) * 1) [.int .u8 ((hexU (nib H i)).toNat : Int)] K' = K' (cellsD H (i + 1)) := fun K' => by
        unfold stO
        have e : Nat.ble (0 + (15 - i) * 1 + [LV.int .u8 ((hexU (nib H i)).toNat : Int)].length) (cellsD H i).length = true := by
          apply Nat.ble_eq_true_of_le
          simp [cellsD]
          try omega
        rw [e, ifB_true]
        congr 1
        show (cellsD H i).set (0 + (15 - i) * 1) _ = _
        rw [show 0 + (15 - i) * 1 = 15 - i by omega, cellsD_set H i hi]
      rw [h3]
      unfold setS
      dsimp only
      rw [setLast, ifB_neg (by decide), shr4, wrap_succ (by omega)]
    · unfold G.blob_Digest.b1
      dsimp only
      rw [lt_nat, ifB_neg (Nat.lt_irrefl _), objAt_at]
      have e : (Nat.beq 0 0 && Nat.beq (16 * 1) (cellsD H 16).length && Nat.blt 0 1 && Nat.ble 16 9223372036854775807) = true := by
        have : (cellsD H 16).length = 16 := by simp [cellsD]
        rw [this]; rfl
      rw [e, ifB_true]
      unfold setS
      rw [setLast]
      have hc : chunks 1 16 (cellsD H 16) = ((List.range 16).map fun m => hexU (nib H (15 - m))).map fun b => LV.int .u8 (b.toNat : Int) := by
        unfold chunks cellsD
        show List.map dupL _ = _
        rw [List.map_map, List.map_map]
        apply List.map_congr_left
        intro m hm
        have : m < 16 := List.mem_range.1 hm
        simp only [Function.comp, decide_eq_true (show 15 - m < 16 by omega)]
        rfl
      unfold strOf
      rw [hc, strL_hex]
      show K _ _ = K _ _
      unfold digestS
      rw [hH]
theorem prog_Digest {k : Nat} (hk : Many k) (b : ByteArray) (hb : b.size ≤ 140737488355328) (S : List LV) (K : ByteArray × Unit → List LV → Option R) : G.blob_Digest.fn k (bytesL b, ()) S K = K (digestS b, ()) S := by
  obtain ⟨G', h⟩ := prog_Digest0 hk b hb S
  exact popK_at (h _) rfl
end
end Go.Lm
