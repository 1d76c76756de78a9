/- Words for plain reasoning over the functions in their typed form. -/
import Derived.Test.YtefkkflmiabfeaaGreatDoorLmP
import Derived.Sort.Walk0
import Derived.Laws.Closers25b
set_option linter.unusedVariables false
set_option linter.unusedSimpArgs false
namespace Go.Lm
section
variable {R : Type}

@[simp] theorem ifB_true (a b : Option R) : ifB true a b = a := rfl
@[simp] theorem ifB_false (a b : Option R) : ifB false a b = b := rfl
theorem ifB_pos {p : Prop} [Decidable p] (h : p) (a b : Option R) : ifB (decide p) a b = a := by simp [h]
theorem ifB_neg {p : Prop} [Decidable p] (h : ¬ p) (a b : Option R) : ifB (decide p) a b = b := by simp [h]
theorem rounds_succ {α : Type} (b : (α → List LV → Option R) → α → List LV → Option R) (n : Nat) (x : α) (S : List LV) : rounds b (n + 1) x S = b (rounds b n) x S := rfl

/-- One place behind the other: an answer, or the next place; behind the last one: fin. -/
def scan {β : Type} (step : Nat → Option β) (fin : β) : Nat → Nat → β
  | 0, _ => fin
  | d + 1, i => match step i with
    | some r => r
    | none => scan step fin d (i + 1)
theorem rounds_scan {α : Type} {b : (α → List LV → Option R) → α → List LV → Option R} (x : Nat → α) (S : Nat → List LV) (n : Nat) (step : Nat → Option (Option R)) (fin : Option R)
    (hb : ∀ rec i, i < n → b rec (x i) (S i) = match step i with | some r => r | none => rec (x (i + 1)) (S (i + 1))) (he : ∀ rec, b rec (x n) (S n) = fin) :
    ∀ (d i fuel : Nat), i + d = n → d < fuel → rounds b fuel (x i) (S i) = scan step fin d i
  | 0, i, fuel, hi, hf => by
    obtain ⟨m, rfl⟩ : ∃ m, fuel = m + 1 := ⟨fuel - 1, by omega⟩
    have : i = n := by omega
    subst this
    rw [rounds_succ, he]; rfl
  | d + 1, i, fuel, hi, hf => by
    obtain ⟨m, rfl⟩ : ∃ m, fuel = m + 1 := ⟨fuel - 1, by omega⟩
    rw [rounds_succ, hb _ i (by omega)]
    cases h : step i with
    | some r => simp only [scan, h]
    | none => simp only [scan, h]; exact rounds_scan x S n step fin hb he d (i + 1) m (by omega) (by omega)
/-- The same, from the first place on, in one memory. -/
theorem rounds_scan0 {α : Type} {b : (α → List LV → Option R) → α → List LV → Option R} (x : Nat → α) (S : List LV) (n k : Nat) (step : Nat → Option (Option R)) (fin : Option R)
    (hb : ∀ rec i, i < n → b rec (x i) S = match step i with | some r => r | none => rec (x (i + 1)) S) (he : ∀ rec, b rec (x n) S = fin) (hk : n < k) : rounds b k (x 0) S = scan step fin n 0 :=
  rounds_scan x (fun _ => S) n step fin hb he n 0 k (by omega) hk
theorem scan_congr {β : Type} {step step' : Nat → Option β} {fin fin' : β} : ∀ (d i : Nat), (∀ j, i ≤ j → j < i + d → step j = step' j) → fin = fin' → scan step fin d i = scan step' fin' d i
  | 0, _, _, h => h
  | d + 1, i, h, hf => by
    simp only [scan]
    rw [h i (Nat.le_refl _) (by omega), scan_congr d (i + 1) (fun j h1 h2 => h j (by omega) (by omega)) hf]
theorem scan_map {β γ : Type} (f : β → γ) {step : Nat → Option β} {fin : β} : ∀ (d i : Nat), scan (fun j => (step j).map f) (f fin) d i = f (scan step fin d i)
  | 0, _ => rfl
  | d + 1, i => by
    simp only [scan]
    cases h : step i with
    | some r => rfl
    | none => simp only [Option.map_none]; exact scan_map f d (i + 1)
/-- No answer at any place. -/
theorem scan_none {β : Type} {step : Nat → Option β} {fin : β} : ∀ (d i : Nat), (∀ j, i ≤ j → j < i + d → step j = none) → scan step fin d i = fin
  | 0, _, _ => rfl
  | d + 1, i, h => by
    simp only [scan]
    rw [h i (Nat.le_refl _) (by omega)]
    exact scan_none d (i + 1) (fun j h1 h2 => h j (by omega) (by omega))
theorem wrap_id {n : Int} (h0 : -9223372036854775808 ≤ n) (h : n ≤ 9223372036854775807) : IntKind.wrap .i64 n = n := by
  rw [IntKind.wrap_i64]; omega
theorem wrap_succ {i : Nat} (h : i < 9223372036854775807) : IntKind.wrap .i64 ((i : Int) + 1) = ((i + 1 : Nat) : Int) := by
  rw [wrap_id (by omega) (by omega)]; omega
theorem wrap_pred {i : Nat} (h0 : 0 < i) (h : i < 9223372036854775807) : IntKind.wrap .i64 ((i : Int) - 1) = ((i - 1 : Nat) : Int) := by
  rw [wrap_id (by omega) (by omega)]; omega
theorem idxL_nat {xs : List LV} {i : Nat} (h : i < xs.length) (K : LV → Option R) : idxL xs (i : Int) K = K (xs.getD i .any) := by
  unfold idxL
  rw [ifB_pos ⟨by omega, by omega⟩, Int.toNat_natCast]
theorem idxStr_nat {s : ByteArray} {i : Nat} (h : i < s.size) (K : Int → Option R) : idxStr s (i : Int) K = K (bt s i) := by
  unfold idxStr
  rw [ifB_pos ⟨by omega, by omega⟩]
theorem lt_nat (i n : Nat) : decide ((i : Int) < (n : Int)) = decide (i < n) := by simp
theorem baList (s : ByteArray) : s.toList = s.data.toList := by
  rw [ByteArray.toList_eq]
theorem strEq_iff (a b : ByteArray) : strEq a b = true ↔ a = b := by
  unfold strEq
  rw [beq_iff_eq, baList, baList]
  constructor
  · intro h
    have : a.data = b.data := Array.ext' h
    cases a; cases b; simp_all
  · intro h; rw [h]
theorem strEq_dec (a b : ByteArray) : strEq a b = decide (a = b) := by
  rw [Bool.eq_iff_iff, strEq_iff]; simp
theorem asStr_str (s : ByteArray) (K : ByteArray → Option R) : asStr (.str s) K = K s := rfl
theorem asBool_bool (b : Bool) (K : Bool → Option R) : asBool (.bool b) K = K b := rfl
theorem asInt_int (k : IntKind) (n : Int) (K : Int → Option R) : asInt k (.int k n) K = K n := by simp [asInt]
theorem asSl_sl (z : Nat) (xs : List LV) (K : List LV → Option R) : asSl z (.sl z xs) K = K xs := by simp [asSl]
theorem asSl_own (e z : Nat) (xs : List LV) (K : List LV → Option R) : asSl z (.own e z xs) K = K xs := by simp [asSl]
theorem asSl_nil (z : Nat) (K : List LV → Option R) : asSl z .nilsl K = K [] := rfl
theorem app_le {b : Nat} {ys xs : List LV} {K : List LV → Option R} (h : (ys.length + xs.length) * b ≤ 140737488355328) (h2 : ys.length + xs.length ≤ 9223372036854775807) : app b ys xs K = K (ys ++ xs) := by
  unfold app
  rw [ifB_pos ⟨h, h2⟩]
theorem slStr_nat {s : ByteArray} {i : Nat} (h : i ≤ s.size) (K : ByteArray → Option R) : slStr s 0 (i : Int) K = K (s.extract 0 i) := by
  unfold slStr
  rw [ifB_pos ⟨by omega, by omega, by omega⟩]; rfl
theorem bt_nat {s : ByteArray} {i : Nat} (h : i < s.size) : bt s i = ((s[i]'h).toNat : Int) := by
  unfold bt
  rw [Int.toNat_natCast, dif_pos h]
theorem bt_lt (s : ByteArray) (i : Int) : 0 ≤ bt s i ∧ bt s i < 256 := by
  unfold bt
  split
  · rename_i h
    have := (s[i.toNat]'h).toNat_lt
    omega
  · omega
end
end Go.Lm
