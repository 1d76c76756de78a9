/- Digests' form, looks: the program's and the reference's functions answer alike. -/
import Derived.Test.YtnapepffpbbkoaaGreatDoorLmU
set_option maxRecDepth 100000
namespace Go.Lm
section
variable {R : Type}
def hexB (c : Int) : Bool := (decide (c ≥ 48) && decide (c ≤ 57)) || (decide (c ≥ 97) && decide (c ≤ 102))
theorem ba_len (s : ByteArray) : s.data.toList.length = s.size := by rw [Array.length_toList]; rfl
def isDigestS (s : ByteArray) : Bool := s.data.toList.all (fun b => hexB (b.toNat : Int)) && ((s.size : Int) == 16)
theorem all_bytes (s : ByteArray) (f : Int → Bool) : s.data.toList.all (fun b => f (b.toNat : Int)) = scan (fun i => match f (bt s i) with | true => none | false => some false) true s.size 0 := by
  have : ∀ (d i : Nat), i + d = s.size → (s.data.toList.drop i).all (fun b => f (b.toNat : Int)) = scan (fun i => match f (bt s i) with | true => none | false => some false) true d i := by
    intro d
    induction d with
    | zero => intro i hi; rw [List.drop_eq_nil_of_le (by rw [ba_len]; omega)]; rfl
    | succ d ih =>
      intro i hi
      have hlt : i < s.size := by omega
      have hlt' : i < s.data.toList.length := by rw [ba_len]; exact hlt
      rw [List.drop_eq_getElem_cons hlt', List.all_cons]
      simp only [scan]
      have e : bt s i = ((s.data.toList[i]).toNat : Int) := by rw [bt_nat hlt]; rfl
      rw [e]
      cases f ((s.data.toList[i]).toNat : Int) with
      | true => simp only [Bool.true_and]; exact ih (i + 1) (by omega)
      | false => rfl
  simpa using this s.size 0 (by omega)
theorem dropWhile_nil {α : Type} (p : α → Bool) : ∀ (l : List α), l.dropWhile p = [] ↔ ∀ x, x ∈ l → p x = true
  | [] => by simp
  | x :: l => by
    rw [List.dropWhile_cons]
    cases h : p x with
    | true => simp [h, dropWhile_nil p l]
    | false => simp [h]
theorem dropWhile_head {α : Type} (p : α → Bool) : ∀ (l : List α) (x : α) (xs : List α), l.dropWhile p = x :: xs → p x = false
  | [], x, xs, h => by simp at h
  | y :: l, x, xs, h => by
    rw [List.dropWhile_cons] at h
    cases hy : p y with
    | true => rw [hy] at h; exact dropWhile_head p l x xs (by simpa using h)
    | false => rw [hy] at h; simp at h; rw [← h.1]; exact hy
theorem trim_nil (l cs : List UInt8) : Lib.trimS l cs = [] ↔ l.all (fun b => cs.contains b) = true := by
  unfold Lib.trimS Lib.trimLeftS
  rw [dropWhile_nil]
  constructor
  · intro h
    have hr : Lib.trimRightS l cs = [] := by
      unfold Lib.trimRightS at h ⊢
      cases hd : l.reverse.dropWhile (cs.contains ·) with
      | nil => rfl
      | cons x xs =>
        exfalso
        have h1 := h x (by rw [hd]; simp)
        have h2 := dropWhile_head _ _ _ _ hd
        rw [h1] at h2; cases h2
    unfold Lib.trimRightS at hr
    have hr' : l.reverse.dropWhile (cs.contains ·) = [] := by simpa using hr
    rw [dropWhile_nil] at hr'
    rw [List.all_eq_true]
    intro x hx
    exact hr' x (by simpa using hx)
  · intro h x hx
    rw [List.all_eq_true] at h
    unfold Lib.trimRightS at hx
    exact h x (by
      have := List.mem_reverse.1 hx
      have := (List.dropWhile_sublist _).subset this
      simpa using this)
theorem prog_IsDigest {k : Nat} (s : ByteArray) (S : List LV) (K : Bool × Unit → List LV → Option R) : G.blob_IsDigest.fn k (s, ()) S K = K (isDigestS s, ()) S := by
  unfold G.blob_IsDigest.fn isDigestS
  dsimp only
  cases hz : ((s.size : Int) == 16) with
  | false => simp
  | true =>
    have h16 : s.size = 16 := by have := beq_iff_eq.1 hz; omega
    rw [ifB_true, Bool.and_true]
    unfold H.Trim.fn handF trimF
    dsimp only
    have : (decide (s.size ≤ 9223372036854775807) && decide ((bs [48, 49, 50, 51, 52, 53, 54, 55, 56, 57, 97, 98, 99, 100, 101, 102]).size < 4294967281) && (bs [48, 49, 50, 51, 52, 53, 54, 55, 56, 57, 97, 98, 99, 100, 101, 102]).data.toList.all (fun b => decide (b.toNat < 128))) = true := by
      rw [decide_eq_true (by omega)]; decide +kernel
    rw [this]
    dsimp only
    congr 2
    rw [Bool.eq_iff_iff, strEq_iff]
    constructor
    · intro h
      have h2 : Lib.trimS s.data.toList (bs [48, 49, 50, 51, 52, 53, 54, 55, 56, 57, 97, 98, 99, 100, 101, 102]).data.toList = [] := by
        have := congrArg (fun b : ByteArray => b.data.toList) h
        simpa [bs] using this
      rw [trim_nil] at h2
      rw [List.all_eq_true] at h2 ⊢
      intro b hb
      have h3 := h2 b hb
      have key : ∀ n : Fin 256, (bs [48, 49, 50, 51, 52, 53, 54, 55, 56, 57, 97, 98, 99, 100, 101, 102]).data.toList.contains (n.val.toUInt8) = true → hexB (n.val : Int) = true := by decide +kernel
      have := key ⟨b.toNat, b.toNat_lt⟩
      simp only [Nat.toUInt8, UInt8.ofNat_toNat] at this
      exact this h3
    · intro h
      have h2 : Lib.trimS s.data.toList (bs [48, 49, 50, 51, 52, 53, 54, 55, 56, 57, 97, 98, 99, 100, 101, 102]).data.toList = [] := by
        rw [trim_nil, List.all_eq_true]
        rw [List.all_eq_true] at h
        intro b hb
        have h3 := h b hb
        have key : ∀ n : Fin 256, hexB (n.val : Int) = true → (bs [48, 49, 50, 51, 52, 53, 54, 55, 56, 57, 97, 98, 99, 100, 101, 102]).data.toList.contains (n.val.toUInt8) = true := by decide +kernel
        have := key ⟨b.toNat, b.toNat_lt⟩
        simp only [Nat.toUInt8, UInt8.ofNat_toNat] at this
        exact this h3
      rw [h2]; rfl

/-! ### Looks -/
structure Look where
  p : ByteArray
  d : ByteArray
  r : Bool
def Look.lv (x : Look) : LV := .agg [.str x.p, .str x.d, .bool x.r]
/-- What is wrong with a look at a place. -/
def lookS (l : List Look) (i : Nat) : Option Int :=
  let x := l.getD i ⟨bs [], bs [], false⟩
  match !(isPathS x.p) with
  | true => some 3
  | false => match (!(strEq x.d (bs [])) && !(isDigestS x.d)) || (strEq x.d (bs []) && x.r) with
    | true => some 3
    | false => match decide (0 < i) && (strLt x.p (l.getD (i - 1) ⟨bs [], bs [], false⟩).p || strEq x.p (l.getD (i - 1) ⟨bs [], bs [], false⟩).p) with
      | true => some 8
      | false => none
def checkLooksS (l : List Look) : Int := match decide (l.length > 4000) with
  | true => 2
  | false => scan (lookS l) 0 l.length 0
theorem look_get (l : List Look) (i : Nat) (h : i < l.length) : (l.map Look.lv).getD i .any = (l.getD i ⟨bs [], bs [], false⟩).lv := by
  simp [List.getD_eq_getElem?_getD, h]
theorem Look.mat (x : Look) (K : List LV → Option R) : mat 3 x.lv K = K [.str x.p, .str x.d, .bool x.r] := rfl
theorem gt_nat (i n : Nat) : decide ((i : Int) > (n : Int)) = decide (i > n) := by simp
theorem prog_CheckLooks {k : Nat} (hk : Many k) (l : List Look) (S : List LV) (K : Int × Unit → List LV → Option R) : G.action_CheckLooks.fn k (l.map Look.lv, ()) S K = K (checkLooksS l, ()) S := by
  have hk' := hk
  unfold Many at hk'
  unfold G.action_CheckLooks.fn checkLooksS
  dsimp only
  rw [List.length_map, show ((4000 : Int)) = ((4000 : Nat) : Int) from rfl, gt_nat]
  cases hc : decide (l.length > 4000) with
  | true => rfl
  | false =>
    have hlen : l.length ≤ 4000 := by have := of_decide_eq_false hc; omega
    rw [ifB_false]
    dsimp only
    rw [← scan_map (fun n => K (n, ()) S)]
    refine rounds_scan0 (fun i => (l.map Look.lv, l.map Look.lv, (l.length : Int), (i : Int), ())) S l.length k _ _ (fun rec i hi => ?_) (fun rec => ?_) (by omega)
    · unfold G.action_CheckLooks.b0 G.action_CheckLooks.q0 G.action_CheckLooks.q1
      dsimp only
      rw [lt_nat, ifB_pos hi, idxL_nat (by simpa using hi), look_get _ _ hi]
      rw [Look.mat]
      simp only [List.getD_cons_zero, List.getD_cons_succ, asStr_str, asBool_bool]
      rw [prog_IsPath hk]
      dsimp only
      have hprev : ∀ (h0 : 0 < i) (K' : LV → Option R), idxL (l.map Look.lv) (IntKind.wrap .i64 ((i : Int) - 1)) K' = K' (l.getD (i - 1) ⟨bs [], bs [], false⟩).lv := fun h0 K' => by
        rw [wrap_pred h0 (by omega), idxL_nat (by simp; omega), look_get _ _ (by omega)]
      have htail : ∀ (J : Option R), ifB (decide ((i : Int) > 0)) (idxL (l.map Look.lv) (IntKind.wrap .i64 ((i : Int) - 1)) fun v8 => asStr (leaf v8 0) fun s9 => ifB (strLt (l.getD i ⟨bs [], bs [], false⟩).p s9 || strEq (l.getD i ⟨bs [], bs [], false⟩).p s9) (K (8, ()) S) J) J =
          match decide (0 < i) && (strLt (l.getD i ⟨bs [], bs [], false⟩).p (l.getD (i - 1) ⟨bs [], bs [], false⟩).p || strEq (l.getD i ⟨bs [], bs [], false⟩).p (l.getD (i - 1) ⟨bs [], bs [], false⟩).p) with | true => K (8, ()) S | false => J := fun J => by
        by_cases h0 : 0 < i
        · rw [ifB_pos (show (i : Int) > 0 by omega), hprev h0, decide_eq_true h0]
          show ifB _ _ _ = _
          simp only [Bool.true_and]
          cases (strLt (l.getD i ⟨bs [], bs [], false⟩).p (l.getD (i - 1) ⟨bs [], bs [], false⟩).p || strEq (l.getD i ⟨bs [], bs [], false⟩).p (l.getD (i - 1) ⟨bs [], bs [], false⟩).p) <;> rfl
        · rw [ifB_neg (show ¬ (i : Int) > 0 by omega), decide_eq_false h0]; rfl
      have hwrap := wrap_succ (show i < 9223372036854775807 by omega)
      have hdig := fun (K' : Bool × Unit → List LV → Option R) => prog_IsDigest (k := k) (l.getD i ⟨bs [], bs [], false⟩).d S K'
      simp only [hdig, hwrap, htail]
      unfold lookS
      dsimp only
      generalize (decide (0 < i) && (strLt (l.getD i ⟨bs [], bs [], false⟩).p (l.getD (i - 1) ⟨bs [], bs [], false⟩).p || strEq (l.getD i ⟨bs [], bs [], false⟩).p (l.getD (i - 1) ⟨bs [], bs [], false⟩).p)) = b5
      generalize isPathS (l.getD i ⟨bs [], bs [], false⟩).p = b1
      generalize strEq (l.getD i ⟨bs [], bs [], false⟩).d (bs []) = b2
      generalize isDigestS (l.getD i ⟨bs [], bs [], false⟩).d = b3
      generalize (l.getD i ⟨bs [], bs [], false⟩).r = b4
      cases b1 <;> cases b2 <;> cases b3 <;> cases b4 <;> cases b5 <;> rfl
    · unfold G.action_CheckLooks.b0
      dsimp only
      rw [lt_nat, ifB_neg (Nat.lt_irrefl _)]
end
end Go.Lm
