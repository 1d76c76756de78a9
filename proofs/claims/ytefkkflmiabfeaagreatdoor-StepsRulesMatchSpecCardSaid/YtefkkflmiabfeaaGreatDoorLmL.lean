/- Texts as lists of bytes: lines, words, numbers. No program. -/
import Derived.Lib.SplitLaws
import Derived.Lib.IndexLaws
import Derived.Lib.ItoaNum
import Derived.Lib.AtoiAll
import Derived.Lib.AtoiErr
import Derived.Test.YtefkkflmiabfeaaGreatDoorLmS
set_option linter.unusedVariables false
set_option linter.unusedSimpArgs false
namespace Go.Lm
abbrev Bs := List UInt8
/-! ### numbers -/
def digB (b : UInt8) : Bool := decide (48 ≤ b.toNat) && decide (b.toNat ≤ 57)
theorem digB_val {b : UInt8} (h : digB b = true) : Lib.digitVal b = some (b.toNat - 48) := by
  unfold digB at h
  simp only [Bool.and_eq_true, decide_eq_true_eq] at h
  unfold Lib.digitVal
  rw [if_pos h]
def valL (l : Bs) : Nat := (Lib.decFrom 0 l).getD 0
theorem decFrom_all : ∀ (l : Bs) (acc : Nat), l.all digB = true → ∃ n, Lib.decFrom acc l = some n
  | [], acc, _ => ⟨acc, rfl⟩
  | a :: l, acc, h => by
    simp only [List.all_cons, Bool.and_eq_true] at h
    simp only [Lib.decFrom, digB_val h.1]
    exact decFrom_all l _ h.2
theorem decFrom_val {l : Bs} (h : l.all digB = true) : Lib.decFrom 0 l = some (valL l) := by
  obtain ⟨n, hn⟩ := decFrom_all l 0 h
  unfold valL
  rw [hn]; rfl
/-- Digits, at least one and at most so many, the first one no needless zero. -/
def isNumL (l : Bs) (d : Nat) : Bool := decide (1 ≤ l.length) && (decide (l.length ≤ d) && (l.all digB && (decide (l.head? ≠ some 48) || decide (l.length = 1))))
theorem isNumL_iff (l : Bs) (d : Nat) : isNumL l d = true ↔ (1 ≤ l.length ∧ l.length ≤ d ∧ l.all digB = true ∧ (l.head? ≠ some 48 ∨ l.length = 1)) := by
  unfold isNumL
  simp only [Bool.and_eq_true, Bool.or_eq_true, decide_eq_true_eq]
theorem valL_lt {l : Bs} (h : l.all digB = true) : valL l < 10 ^ l.length := by
  have := Lib.decFrom_lt l 0 _ (decFrom_val h)
  simpa using this
end Go.Lm

/- What is read: lines of words of a text, at a place. No program. -/
set_option maxRecDepth 100000
namespace Go.Lm
def toL (s : ByteArray) : Bs := s.data.toList
def ofL (l : Bs) : ByteArray := ⟨l.toArray⟩
@[simp] theorem toL_ofL (l : Bs) : toL (ofL l) = l := rfl
@[simp] theorem ofL_toL (s : ByteArray) : ofL (toL s) = s := by cases s; rfl
theorem toL_len (s : ByteArray) : (toL s).length = s.size := by unfold toL; rw [Array.length_toList]; rfl
theorem toL_app (a b : ByteArray) : toL (a ++ b) = toL a ++ toL b := by unfold toL; simp
theorem toL_inj {a b : ByteArray} (h : toL a = toL b) : a = b := by rw [← ofL_toL a, ← ofL_toL b, h]
theorem toL_extract (s : ByteArray) (i j : Nat) : toL (s.extract i j) = ((toL s).drop i).take (j - i) := by
  unfold toL
  simp only [ByteArray.data_extract, Array.toList_extract, List.extract_eq_take_drop]
/-- Is a word a number of at most so many digits? -/
def isNumS (s : ByteArray) (d : Nat) : Bool := isNumL (toL s) d
def numV (s : ByteArray) : Int := (valL (toL s) : Int)
end Go.Lm
