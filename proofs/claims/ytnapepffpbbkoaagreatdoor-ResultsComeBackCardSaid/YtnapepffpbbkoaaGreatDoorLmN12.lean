/- The law ResultsComeBack's function answers true. -/
import Derived.Test.YtnapepffpbbkoaaGreatDoorLmN11
set_option maxRecDepth 100000
namespace Go.Lm
section
variable {R : Type}
theorem tail4 {k : Nat} (hk : Many k) (s : ByteArray) {S : List LV} (hS : HasPow S) (J : Bool × Unit → List LV → Option R) : G.smithyardlaw5_ResultsComeBack.q0 k J (s, ()) S = J (true, ()) S := by
  unfold G.smithyardlaw5_ResultsComeBack.q0 G.smithyardlaw5_ResultsComeBack.q1 G.smithyardlaw5_ResultsComeBack.q2 G.smithyardlaw5_ResultsComeBack.q3 G.smithyardlaw5_ResultsComeBack.q4
  dsimp only
  rw [prog_ReadResult hk]
  dsimp only
  have h0 : ∀ n : Int, (n != 0) = !(n == 0) := fun n => rfl
  rw [h0]
  cases hz : (readS s).2.2 == 0 with
  | false =>
    have hne : (readS s).2.2 ≠ 0 := fun e => by rw [e] at hz; cases hz
    rw [read_fail hne]
    rw [Bool.not_false, ifB_true]
    show ifB ((0 : Int) == 0) (ifB ((0 : Int) == 0) _ _) _ = _
    rw [beq_self_eq_true, ifB_true, ifB_true, prog_awake hk]
  | true =>
    have hz := beq_iff_eq.1 hz
    have ht : resTextS (readS s).1 = (s, 0) := text_of_read (n := (readS s).2.1) (by rw [← hz])
    rw [Bool.not_true, ifB_false]
    show G.action_ResultText.fn k ((readS s).1.tup, ()) S _ = _
    rw [prog_ResultText hk _ (readS_ok s) hS, ht]
    dsimp only
    rw [beq_self_eq_true, ifB_true, (strEq_iff _ _).2 rfl, ifB_true, prog_awake hk]
theorem same_cp (x : Res) : SameRes x.cp x :=
  ⟨rfl, rfl, rfl, rfl, List.length_map _, fun i _ => ⟨cp_p x.files i, cp_r x.files i, cp_b x.files i⟩⟩
theorem law4 {k : Nat} (hk : Many k) (x : Res) (ok : ResOk x) (hl : x.looks.length ≤ 140737488355328) (s : ByteArray) {S : List LV} (hS : HasPow S) (K : Bool × Unit → List LV → Option R) :
    G.smithyardlaw5_ResultsComeBack.fn k (x.tup, s, ()) S K = K (true, ()) S := by
  unfold G.smithyardlaw5_ResultsComeBack.fn
  dsimp only
  rw [prog_ResultText hk x ok hS]
  dsimp only
  cases hz : (resTextS x).2 == 0 with
  | false => rw [ifB_false, tail4 hk s hS]
  | true =>
    have hz := beq_iff_eq.1 hz
    have hr := readS_of_text (x := x) (s := (resTextS x).1) (by rw [← hz])
    rw [ifB_true, prog_ReadResult hk, hr]
    dsimp only
    have e0 : ((0 : Int) != 0) = false := rfl
    have e1 : (((0 : Nat) : Int) != 0) = false := rfl
    rw [e0, ifB_false, e1, ifB_false]
    show G.smithyardref5_SameResult.fn k (x.cp.tup, x.tup, ()) S _ = _
    rw [ref_SameResult hk x.cp x (same_cp x) (by show (x.files.map File.cp).length ≤ _; rw [List.length_map]; exact ok.f.n) hl]
    dsimp only
    rw [Bool.not_true, ifB_false, tail4 hk s hS]
end
end Go.Lm
