/- Results: lines of looks, numbers within bounds. -/
import Derived.Test.YtnapepffpbbkoaaGreatDoorLmU7
set_option maxRecDepth 100000
namespace Go.Lm
section
variable {R : Type}
theorem catStr_le {a b : ByteArray} (h : a.size + b.size ≤ 9223372036854775807) (K : ByteArray → Option R) : catStr a b K = K (a ++ b) := by
  unfold catStr
  rw [ifB_pos h]
def signS (b : Bool) : ByteArray := match b with | true => bs [120] | false => bs [45]
theorem signS_size (b : Bool) : (signS b).size = 1 := by cases b <;> rfl
theorem prog_runText (k : Nat) (b : Bool) (S : List LV) (K : ByteArray × Unit → List LV → Option R) : G.action_runText.fn k (b, ()) S K = K (signS b, ()) S := by cases b <;> rfl
theorem ref_sign (k : Nat) (b : Bool) (S : List LV) (K : ByteArray × Unit → List LV → Option R) : G.smithyardref5_sign.fn k (b, ()) S K = K (signS b, ()) S := by cases b <;> rfl
def digS (d : ByteArray) : ByteArray := match strEq d (bs []) with | true => bs [45] | false => d
def lookLineS (x : Look) : ByteArray := ((((bs [108, 111, 111, 107, 32] ++ x.p) ++ bs [32]) ++ digS x.d ++ bs [32]) ++ signS x.r) ++ bs [10]
theorem app_size (a b : ByteArray) : (a ++ b).size = a.size + b.size := by simp
theorem line_at (x : Look) (d : ByteArray) (hp : x.p.size ≤ 140737488355328) (hd : d.size ≤ 140737488355328) (K : ByteArray → Option R) :
    (catStr (bs [108, 111, 111, 107, 32]) x.p fun s1 => catStr s1 (bs [32]) fun s2 => catStr s2 d fun s3 => catStr s3 (bs [32]) fun s4 => catStr s4 (signS x.r) fun s6 => catStr s6 (bs [10]) fun s7 => K s7) = K (((((bs [108, 111, 111, 107, 32] ++ x.p) ++ bs [32]) ++ d ++ bs [32]) ++ signS x.r) ++ bs [10]) := by
  have e5 : (bs [108, 111, 111, 107, 32]).size = 5 := rfl
  have e1 : (bs [32]).size = 1 := rfl
  have e2 : (bs [10]).size = 1 := rfl
  have e3 := signS_size x.r
  rw [catStr_le (by omega), catStr_le (by rw [app_size]; omega), catStr_le (by simp only [app_size]; omega), catStr_le (by simp only [app_size]; omega), catStr_le (by simp only [app_size]; omega), catStr_le (by simp only [app_size]; omega)]
theorem prog_lookText (k : Nat) (x : Look) (hp : x.p.size ≤ 140737488355328) (hd : x.d.size ≤ 140737488355328) (S : List LV) (K : ByteArray × Unit → List LV → Option R) : G.action_lookText.fn k ((x.p, x.d, x.r, ()), ()) S K = K (lookLineS x, ()) S := by
  unfold G.action_lookText.fn lookLineS digS
  dsimp only
  cases strEq x.d (bs []) with
  | true =>
    unfold G.action_lookText.q0
    dsimp only
    rw [ifB_true]
    simp only [prog_runText]
    exact line_at x (bs [45]) hp (by decide) (fun s => K (s, ()) S)
  | false =>
    unfold G.action_lookText.q0
    dsimp only
    rw [ifB_false]
    simp only [prog_runText]
    exact line_at x x.d hp hd (fun s => K (s, ()) S)
theorem ref_lookLine (k : Nat) (x : Look) (hp : x.p.size ≤ 140737488355328) (hd : x.d.size ≤ 140737488355328) (S : List LV) (K : ByteArray × Unit → List LV → Option R) : G.smithyardref5_lookLine.fn k ((x.p, x.d, x.r, ()), ()) S K = K (lookLineS x, ()) S := by
  unfold G.smithyardref5_lookLine.fn lookLineS digS
  dsimp only
  cases strEq x.d (bs []) with
  | true =>
    unfold G.smithyardref5_lookLine.q0
    dsimp only
    rw [ifB_true]
    simp only [ref_sign]
    exact line_at x (bs [45]) hp (by decide) (fun s => K (s, ()) S)
  | false =>
    unfold G.smithyardref5_lookLine.q0
    dsimp only
    rw [ifB_false]
    simp only [ref_sign]
    exact line_at x x.d hp hd (fun s => K (s, ()) S)
def withinB (n a b : Int) : Bool := decide (n ≥ a) && decide (n ≤ b)
theorem ref_within5 (k : Nat) (n a b : Int) (S : List LV) (K : Bool × Unit → List LV → Option R) : G.smithyardref5_within.fn k (n, a, b, ()) S K = K (withinB n a b, ()) S := by
  unfold G.smithyardref5_within.fn withinB
  dsimp only
  cases decide (n ≥ a) <;> rfl
end
end Go.Lm
