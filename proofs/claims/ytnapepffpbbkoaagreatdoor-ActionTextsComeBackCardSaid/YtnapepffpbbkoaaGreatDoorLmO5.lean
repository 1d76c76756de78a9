/- Reading an action: what is read, and the program's reader of a line. -/
import Derived.Test.YtnapepffpbbkoaaGreatDoorLmO
import Derived.Test.YtnapepffpbbkoaaGreatDoorLmO
set_option maxRecDepth 100000
namespace Go.Lm
section
variable {R : Type}
def placeS (w : ByteArray) : Nat := cond (strEq w (bs [116, 111, 111, 108])) 1 (cond (strEq w (bs [100, 111])) 2 (cond (strEq w (bs [118, 97, 114])) 3 (cond (strEq w (bs [111, 117, 116])) 4 (cond (strEq w (bs [110, 101, 101, 100])) 5 (cond (strEq w (bs [116, 105, 109, 101])) 6 0)))))
theorem placeS_le (w : ByteArray) : placeS w ≤ 6 := by
  unfold placeS
  cases strEq w (bs [116, 111, 111, 108]) <;> cases strEq w (bs [100, 111]) <;> cases strEq w (bs [118, 97, 114]) <;> cases strEq w (bs [111, 117, 116]) <;> cases strEq w (bs [110, 101, 101, 100]) <;> cases strEq w (bs [116, 105, 109, 101]) <;> decide
def lineWords : List ByteArray := [bs [116, 111, 111, 108], bs [100, 111], bs [118, 97, 114], bs [111, 117, 116], bs [110, 101, 101, 100], bs [116, 105, 109, 101]]
theorem index_place {k : Nat} (hk : Many k) (w : ByteArray) (S : List LV) (K : Int × Unit → List LV → Option R) :
    G.slices_Index_s_string_string.fn k ([.str (bs [116, 111, 111, 108]), .str (bs [100, 111]), .str (bs [118, 97, 114]), .str (bs [111, 117, 116]), .str (bs [110, 101, 101, 100]), .str (bs [116, 105, 109, 101])], w, ()) S K = K ((placeS w : Int) - 1, ()) S := by
  refine Eq.trans (index_at hk lineWords (by decide) w S K) ?_
  have e : (scan (fun i => match strEq w (lineWords.getD i (bs [])) with | true => some (i : Int) | false => none) (-1) lineWords.length 0) = (placeS w : Int) - 1 := by
    unfold placeS
    show scan _ _ 6 0 = _
    simp only [scan]
    rw [show lineWords.getD (0) (bs []) = bs [116, 111, 111, 108] from rfl, show lineWords.getD (0 + 1) (bs []) = bs [100, 111] from rfl, show lineWords.getD (0 + 1 + 1) (bs []) = bs [118, 97, 114] from rfl, show lineWords.getD (0 + 1 + 1 + 1) (bs []) = bs [111, 117, 116] from rfl, show lineWords.getD (0 + 1 + 1 + 1 + 1) (bs []) = bs [110, 101, 101, 100] from rfl, show lineWords.getD (0 + 1 + 1 + 1 + 1 + 1) (bs []) = bs [116, 105, 109, 101] from rfl]
    cases strEq w (bs [116, 111, 111, 108]) with
    | true => rfl
    | false =>
    cases strEq w (bs [100, 111]) with
    | true => rfl
    | false =>
    cases strEq w (bs [118, 97, 114]) with
    | true => rfl
    | false =>
    cases strEq w (bs [111, 117, 116]) with
    | true => rfl
    | false =>
    cases strEq w (bs [110, 101, 101, 100]) with
    | true => rfl
    | false => cases strEq w (bs [116, 105, 109, 101]) <;> rfl
  exact congrArg (fun n => K (n, ()) S) e
/-- Words between single blanks, none empty. -/
def noEmp (s : ByteArray) : Bool := !((splitL 32 (toL s)).any List.isEmpty)
/-- One word. -/
def oneS (s : ByteArray) : Bool := !(strEq s (bs [])) && !(cutB 32 s).2.2.1
def varOk (s : ByteArray) : Bool := (cutB 32 s).2.2.1 && !(strEq (cutB 32 s).1 (bs []))
def varOf (s : ByteArray) : AVar := ((cutB 32 s).1, (cutB 32 s).2.1)
def okA (p : Nat) (rest : ByteArray) : Bool := match p with
  | 1 => oneS rest
  | 2 => noEmp rest
  | 3 => varOk rest
  | 4 => oneS rest
  | 5 => varOk rest
  | _ => isNumS rest 9
def putA (a : Act) (p : Nat) (rest : ByteArray) : Act := match p with
  | 1 => { a with tool := rest }
  | 2 => { a with cmds := a.cmds ++ [splitW 32 rest] }
  | 3 => { a with vars := a.vars ++ [varOf rest] }
  | 4 => { a with outs := a.outs ++ [rest] }
  | 5 => { a with needs := a.needs ++ [varOf rest] }
  | _ => { a with time := numV rest }
theorem ActLen.put {a : Act} {n : Nat} (h : ActLen a n) (p : Nat) (rest : ByteArray) : ActLen (putA a p rest) (n + 1) := by
  obtain ⟨h1, h2, h3, h4⟩ := h
  unfold putA
  split <;> refine ⟨?_, ?_, ?_, ?_⟩ <;> (try simp only [List.length_append, List.length_cons, List.length_nil]) <;> omega
theorem ActOk.put {a : Act} (h : ActOk a) (p : Nat) {rest : ByteArray} (hr : rest.size ≤ 140737488355328) (hw : ∀ w ∈ splitW 32 rest, w.size ≤ 140737488355328) (hv : (varOf rest).1.size ≤ 140737488355328) : ActOk (putA a p rest) := by
  obtain ⟨h1, h2, h3, h4, h5⟩ := h
  have hm : ∀ {α : Type} {P : α → Prop} {l : List α} {x : α}, (∀ y ∈ l, P y) → P x → ∀ y ∈ l ++ [x], P y := fun hl hx y hy => by
    rcases List.mem_append.1 hy with h | h
    · exact hl y h
    · rw [List.mem_singleton.1 h]; exact hx
  unfold putA
  split
  · exact ⟨hr, h2, h3, h4, h5⟩
  · exact ⟨h1, hm (P := fun c : List ByteArray => ∀ w ∈ c, w.size ≤ 140737488355328) h2 hw, h3, h4, h5⟩
  · exact ⟨h1, h2, hm (P := fun x : AVar => x.1.size ≤ 140737488355328) h3 hv, h4, h5⟩
  · exact ⟨h1, h2, h3, hm (P := fun w : ByteArray => w.size ≤ 140737488355328) h4 hr, h5⟩
  · exact ⟨h1, h2, h3, h4, hm (P := fun x : AVar => x.1.size ≤ 140737488355328) h5 hv⟩
  · exact ⟨h1, h2, h3, h4, h5⟩
/-! ### the program's object -/
def cellsP (a : Act) (t : Int) : List LV := [.str a.tool, ow 40 1 (a.cmds.map cmdL), ow 106 2 (a.vars.map varL), ow 9 1 (a.outs.map .str), ow 106 2 (a.needs.map varL), .int .i64 a.time, .int .i64 t]
theorem P_ld (a : Act) (t : Int) (K : Int → Option R) : ldInt .i64 (cellsP a t) (0 + 6) K = K t := rfl
theorem P_at (a : Act) (t n : Int) (K : List LV → Option R) : stO (cellsP a t) (0 + 6) [.int .i64 n] K = K (cellsP a n) := rfl
theorem P_tool (a : Act) (t : Int) (s : ByteArray) (K : List LV → Option R) : stO (cellsP a t) ((0 + 0) + 0) [.str s] K = K (cellsP { a with tool := s } t) := rfl
theorem P_time (a : Act) (t n : Int) (K : List LV → Option R) : stO (cellsP a t) ((0 + 0) + 5) [.int .i64 n] K = K (cellsP { a with time := n } t) := rfl
theorem P_o1 (a : Act) (t : Int) (K : List LV → Option R) : asOwn 40 1 ((cellsP a t).getD ((0 + 0) + 1) .any) K = K (a.cmds.map cmdL) := asOwn_ow 40 1 _ K
theorem P_o2 (a : Act) (t : Int) (K : List LV → Option R) : asOwn 106 2 ((cellsP a t).getD ((0 + 0) + 2) .any) K = K (a.vars.map varL) := asOwn_ow 106 2 _ K
theorem P_o3 (a : Act) (t : Int) (K : List LV → Option R) : asOwn 9 1 ((cellsP a t).getD ((0 + 0) + 3) .any) K = K (a.outs.map .str) := asOwn_ow 9 1 _ K
theorem P_o4 (a : Act) (t : Int) (K : List LV → Option R) : asOwn 106 2 ((cellsP a t).getD ((0 + 0) + 4) .any) K = K (a.needs.map varL) := asOwn_ow 106 2 _ K
theorem cmd_snoc (l : List (List ByteArray)) (c : List ByteArray) : LV.own 40 1 (l.map cmdL ++ [.sl 1 (c.map .str)]) = ow 40 1 ((l ++ [c]).map cmdL) := by rw [ow_snoc, List.map_append]; rfl
theorem var_snoc (l : List AVar) (x : AVar) : LV.own 106 2 (l.map varL ++ [.agg [.str x.1, .str x.2]]) = ow 106 2 ((l ++ [x]).map varL) := by rw [ow_snoc, List.map_append]; rfl
theorem str_snoc (l : List ByteArray) (s : ByteArray) : LV.own 9 1 (l.map .str ++ [.str s]) = ow 9 1 ((l ++ [s]).map .str) := by rw [ow_snoc, List.map_append]; rfl
theorem P_s1 (a : Act) (t : Int) (v : LV) (c : List ByteArray) (K : List LV → Option R) : stO ((cellsP a t).set ((0 + 0) + 1) v) ((0 + 0) + 1) [.own 40 1 (a.cmds.map cmdL ++ [.sl 1 (c.map .str)])] K = K (cellsP { a with cmds := a.cmds ++ [c] } t) := by
  rw [cmd_snoc]; rfl
theorem P_s2 (a : Act) (t : Int) (v : LV) (x y : ByteArray) (K : List LV → Option R) : stO ((cellsP a t).set ((0 + 0) + 2) v) ((0 + 0) + 2) [.own 106 2 (a.vars.map varL ++ [.agg [.str x, .str y]])] K = K (cellsP { a with vars := a.vars ++ [(x, y)] } t) := by
  rw [var_snoc a.vars (x, y)]; rfl
theorem P_s3 (a : Act) (t : Int) (v : LV) (s : ByteArray) (K : List LV → Option R) : stO ((cellsP a t).set ((0 + 0) + 3) v) ((0 + 0) + 3) [.own 9 1 (a.outs.map .str ++ [.str s])] K = K (cellsP { a with outs := a.outs ++ [s] } t) := by
  rw [str_snoc]; rfl
theorem P_s4 (a : Act) (t : Int) (v : LV) (x y : ByteArray) (K : List LV → Option R) : stO ((cellsP a t).set ((0 + 0) + 4) v) ((0 + 0) + 4) [.own 106 2 (a.needs.map varL ++ [.agg [.str x, .str y]])] K = K (cellsP { a with needs := a.needs ++ [(x, y)] } t) := by
  rw [var_snoc a.needs (x, y)]; rfl
theorem HasErr.put {S : List LV} {k id t : Nat} {xs : List LV} (h : HasErr S k) (ho : S.getD id .any = .obj t xs) (v : LV) : HasErr (S.set id v) k := by
  obtain ⟨j, e, fz, tp, p, h⟩ := h
  refine ⟨j, e, fz, tp, p, ?_⟩
  rw [other_set ?_]
  · exact h
  · intro e1; subst e1; rw [ho] at h; cases h
theorem Atoi_any (k : Nat) {S : List LV} {s : ByteArray} (h : H.AtoiErr S s) : ∃ n v, ∀ K : Int × LV × Unit → List LV → Option R, H.Atoi.fn k (s, ()) S K = K (n, v, ()) S := by
  have h9 : s.size ≤ 9223372036854775806 := by have := h.2.2; omega
  have hd : (Classical.propDecidable (H.AtoiErr S s)).decide = true := @decide_eq_true _ (Classical.propDecidable _) h
  unfold H.Atoi.fn atoiF
  dsimp only
  cases Lib.atoiAll s.data.toList with
  | ok v =>
    dsimp only
    rw [decide_eq_true h9]
    exact ⟨v, .nili, fun K => rfl⟩
  | _ =>
    dsimp only
    rw [hd]
    exact ⟨atoiV s, .any, fun K => rfl⟩
def atI (last : Nat) : Int := match last with
  | 0 => -1
  | 6 => 6
  | n + 1 => n
theorem app_one' {b : Nat} {ys : List LV} {x : LV} {K : List LV → Option R} (h : ys.length ≤ 3000000) (hb : b ≤ 100) : app b ys [x] K = K (ys ++ [x]) := by
  refine app_le ?_ ?_
  · have : (ys.length + [x].length) * b ≤ 3000001 * 100 := Nat.mul_le_mul (by simp; omega) hb
    omega
  · simp only [List.length_cons, List.length_nil]; omega
theorem prog_q1 {k : Nat} (hk : Many k) {S : List LV} {id : Nat} {a : Act} {t : Int} (h : S.getD id .any = .obj 98 (cellsP a t)) (he : HasErr S H.errG) (hg : HasErr S H.rngG) {n : Nat} (hl : ActLen a n) (hn : n ≤ 3000000) (rest : ByteArray) (hr : rest.size ≤ 3000000) (p : Nat) (h1 : 1 ≤ p) (h6 : p ≤ 6) :
    ∃ v, (okA p rest = true → v = .obj 98 (cellsP (putA a p rest) (atI p))) ∧ ∀ J : Bool × Unit → List LV → Option R, G.action_actionReader_line.q1 k J ((id, 0), rest, (p : Int) - 1, ()) S = J (okA p rest, ()) (S.set id v) := by
  have hcm : (a.cmds.map cmdL).length ≤ 3000000 := by rw [List.length_map]; exact Nat.le_trans hl.cmds hn
  have hva : (a.vars.map varL).length ≤ 3000000 := by rw [List.length_map]; exact Nat.le_trans hl.vars hn
  have hou : (a.outs.map LV.str).length ≤ 3000000 := by rw [List.length_map]; exact Nat.le_trans hl.outs hn
  have hne : (a.needs.map varL).length ≤ 3000000 := by rw [List.length_map]; exact Nat.le_trans hl.needs hn
  unfold G.action_actionReader_line.q1 G.action_actionReader_line.q2 G.action_actionReader_line.q3 G.action_actionReader_line.q4 G.action_actionReader_line.q5
  dsimp only
  have hc := fun (S : List LV) (K : ByteArray × ByteArray × Bool × Unit → List LV → Option R) => cutS_at k 32 rest (by omega) S K
  simp only [at_of h, P_at, setS_of, hc]
  have u : UInt8.ofNat 32 = 32 := rfl
  rw [u]
  rcases (show p = 1 ∨ p = 2 ∨ p = 3 ∨ p = 4 ∨ p = 5 ∨ p = 6 by omega) with rfl | rfl | rfl | rfl | rfl | rfl
  · refine ⟨.obj 98 (cellsP { a with tool := rest } 0), fun _ => rfl, fun J => ?_⟩
    rw [show ((((1 : Nat) : Int) - 1) == 0) = true from rfl, show (((1 : Nat) : Int) - 1) = 0 from rfl, ifB_true]
    unfold G.action_actionReader_line.q6
    simp only [at_of (has_set h _), P_tool, setS_of, List.set_set]
    show _ = J (!(strEq rest (bs [])) && !(cutB 32 rest).2.2.1, ()) _
    cases strEq rest (bs []) <;> rfl
  · refine ⟨.obj 98 (cellsP { a with cmds := a.cmds ++ [splitW 32 rest] } 1), fun _ => rfl, fun J => ?_⟩
    rw [show ((((2 : Nat) : Int) - 1) == 0) = false from rfl, show (((2 : Nat) : Int) - 1) = 1 from rfl, ifB_false]
    unfold G.action_actionReader_line.q7 G.action_actionReader_line.q8 G.action_actionReader_line.q9
    have hs := fun (S : List LV) (K : List LV × Unit → List LV → Option R) => splitW_at k 32 rest (by omega) S K
    rw [u] at hs
    have hlen := splitW_len 32 rest
    dsimp only
    simp only [show ((1 : Int) == 1) = true from rfl, ifB_true, hs, at_of (has_set h _), P_o1, setS_of, List.set_set, app_one' hcm (show 24 ≤ 100 by decide), P_s1, contains_at hk _ (show (splitW 32 rest).length ≤ 140737488355328 by omega)]
    show J (!((splitW 32 rest).any (strEq (bs []))), ()) _ = J (noEmp rest, ()) _
    unfold noEmp
    rw [← any_empty]
    rfl
  · refine ⟨.obj 98 (cellsP { a with vars := a.vars ++ [varOf rest] } 2), fun _ => rfl, fun J => ?_⟩
    rw [show ((((3 : Nat) : Int) - 1) == 0) = false from rfl, show (((3 : Nat) : Int) - 1) = 2 from rfl, ifB_false]
    unfold G.action_actionReader_line.q7 G.action_actionReader_line.q10 G.action_actionReader_line.q11
    dsimp only
    simp only [show ((2 : Int) == 1) = false from rfl, show ((2 : Int) == 2) = true from rfl, ifB_true, ifB_false, at_of (has_set h _), P_o2, setS_of, List.set_set, app_one' hva (show 32 ≤ 100 by decide), P_s2]
    show _ = J ((cutB 32 rest).2.2.1 && !(strEq (cutB 32 rest).1 (bs [])), ()) _
    cases (cutB 32 rest).2.2.1 <;> rfl
  · refine ⟨.obj 98 (cellsP { a with outs := a.outs ++ [rest] } 3), fun _ => rfl, fun J => ?_⟩
    rw [show ((((4 : Nat) : Int) - 1) == 0) = false from rfl, show (((4 : Nat) : Int) - 1) = 3 from rfl, ifB_false]
    unfold G.action_actionReader_line.q7 G.action_actionReader_line.q10 G.action_actionReader_line.q12 G.action_actionReader_line.q13
    dsimp only
    simp only [show ((3 : Int) == 1) = false from rfl, show ((3 : Int) == 2) = false from rfl, show ((3 : Int) == 3) = true from rfl, ifB_true, ifB_false, at_of (has_set h _), P_o3, setS_of, List.set_set, app_one' hou (show 16 ≤ 100 by decide), P_s3]
    show _ = J (!(strEq rest (bs [])) && !(cutB 32 rest).2.2.1, ()) _
    cases strEq rest (bs []) <;> rfl
  · refine ⟨.obj 98 (cellsP { a with needs := a.needs ++ [varOf rest] } 4), fun _ => rfl, fun J => ?_⟩
    rw [show ((((5 : Nat) : Int) - 1) == 0) = false from rfl, show (((5 : Nat) : Int) - 1) = 4 from rfl, ifB_false]
    unfold G.action_actionReader_line.q7 G.action_actionReader_line.q10 G.action_actionReader_line.q12 G.action_actionReader_line.q14 G.action_actionReader_line.q15
    dsimp only
    simp only [show ((4 : Int) == 1) = false from rfl, show ((4 : Int) == 2) = false from rfl, show ((4 : Int) == 3) = false from rfl, show ((4 : Int) == 4) = true from rfl, ifB_true, ifB_false, at_of (has_set h _), P_o4, setS_of, List.set_set, app_one' hne (show 32 ≤ 100 by decide), P_s4]
    show _ = J ((cutB 32 rest).2.2.1 && !(strEq (cutB 32 rest).1 (bs [])), ()) _
    cases (cutB 32 rest).2.2.1 <;> rfl
  · rw [show ((((6 : Nat) : Int) - 1) == 0) = false from rfl, show (((6 : Nat) : Int) - 1) = 5 from rfl]
    simp only [ifB_false]
    unfold G.action_actionReader_line.q7 G.action_actionReader_line.q10 G.action_actionReader_line.q12 G.action_actionReader_line.q14 G.action_actionReader_line.q16 G.action_actionReader_line.q17 G.action_actionReader_line.q18
    dsimp only
    have hnum : ∀ (S : List LV) (K : Bool × Unit → List LV → Option R), G.action_isNumber.fn k (rest, 9, ()) S K = K (isNumS rest 9, ()) S := fun S K => isNumber_at k rest 9 (by omega) S K
    simp only [show ((5 : Int) == 1) = false from rfl, show ((5 : Int) == 2) = false from rfl, show ((5 : Int) == 3) = false from rfl, show ((5 : Int) == 4) = false from rfl, ifB_false]
    have go : ∀ (m : Int) (v : LV), (∀ (K : Int × LV × Unit → List LV → Option R), H.Atoi.fn k (rest, ()) (S.set id (.obj 98 (cellsP a 5))) K = K (m, v, ()) (S.set id (.obj 98 (cellsP a 5)))) → ∀ J : Bool × Unit → List LV → Option R,
        (H.Atoi.fn k (rest, ()) (S.set id (.obj 98 (cellsP a 5))) fun r55 S => objAt S id fun ty c56 => stO c56 ((0 + 0) + 5) [.int .i64 r55.1] fun c57 => setS (S.set id (.obj ty c57)) fun S => objAt S id fun ty c58 => stO c58 (0 + 6) [.int .i64 6] fun c59 => setS (S.set id (.obj ty c59)) fun S => G.action_isNumber.fn k (rest, 9, ()) S fun r60 S => J (r60.1, ()) S) =
          J (isNumS rest 9, ()) (S.set id (.obj 98 (cellsP { a with time := m } 6))) := fun m v hm J => by
      rw [hm]
      simp only [at_of (has_set h _), P_time, P_at, setS_of, List.set_set, hnum]
    cases hq : isNumS rest 9 with
    | true =>
      have hA := fun (K : Int × LV × Unit → List LV → Option R) => Atoi_at k (d := 9) (by decide) hq (S.set id (.obj 98 (cellsP a 5))) K
      refine ⟨.obj 98 (cellsP { a with time := numV rest } 6), fun _ => rfl, fun J => ?_⟩
      refine Eq.trans (go _ _ hA J) ?_
      rw [hq]
      show _ = J (isNumS rest 9, ()) _
      rw [hq]
    | false =>
      obtain ⟨m, v, hA⟩ := Atoi_any (R := R) k (S := S.set id (.obj 98 (cellsP a 5))) (s := rest) ⟨he.put h _, hg.put h _, by omega⟩
      refine ⟨.obj 98 (cellsP { a with time := m } 6), fun hy => ?_, fun J => ?_⟩
      · have : isNumS rest 9 = true := hy
        rw [hq] at this; cases this
      · refine Eq.trans (go _ _ hA J) ?_
        rw [hq]
        show _ = J (isNumS rest 9, ()) _
        rw [hq]
def nextOk (last p : Nat) : Bool := !(decide (p = 0)) && (!(decide (p < last)) && (!(decide (p = last) && !(decide (2 ≤ p) && decide (p ≤ 5))) && !(decide (last = 0) && !(decide (p = 1)))))
/-- A line can stand where it stands. -/
def lineOk (last : Nat) (s : ByteArray) : Bool := (cutB 32 s).2.2.1 && (nextOk last (placeS (cutB 32 s).1) && okA (placeS (cutB 32 s).1) (cutB 32 s).2.1)
theorem next_fin : ∀ last : Fin 7, ∀ p : Fin 7, nextOk last.1 p.1 = (!(decide ((p.1 : Int) - 1 < 0)) && (!(atI last.1 == 6) && cond (((p.1 : Int) - 1) == 0) (atI last.1 == -1) (!(atI last.1 == -1) && !(decide ((p.1 : Int) - 1 < atI last.1))))) := by decide
theorem next_eq {last p : Nat} (hl : last ≤ 6) (hp : p ≤ 6) : nextOk last p = (!(decide ((p : Int) - 1 < 0)) && (!(atI last == 6) && cond (((p : Int) - 1) == 0) (atI last == -1) (!(atI last == -1) && !(decide ((p : Int) - 1 < atI last))))) := next_fin ⟨last, by omega⟩ ⟨p, by omega⟩
theorem prog_q0 (k : Nat) {S : List LV} {id : Nat} {a : Act} {t : Int} (h : S.getD id .any = .obj 98 (cellsP a t)) (rest : ByteArray) (m : Int) (J : Bool × Unit → List LV → Option R) :
    G.action_actionReader_line.q0 k J ((id, 0), rest, m, ()) S = cond (cond (m == 0) (t == -1) (!(t == -1) && !(decide (m < t)))) (G.action_actionReader_line.q1 k (fun o S => J (o.1, ()) S) ((id, 0), rest, m, ()) S) (J (false, ()) S) := by
  unfold G.action_actionReader_line.q0
  dsimp only
  simp only [at_of h, P_ld]
  have e1 : (t != -1) = !(t == -1) := rfl
  have e2 : (m != 0) = !(m == 0) := rfl
  rw [e1, e2]
  cases m == 0 with
  | true => cases t == -1 <;> rfl
  | false =>
    cases t == -1 with
    | true => rfl
    | false => cases decide (m < t) <;> rfl
theorem set_self {S : List LV} {id t : Nat} {xs : List LV} (h : S.getD id .any = .obj t xs) : S.set id (.obj t xs) = S := by
  have hl := lt_of h
  rw [← h]
  apply List.ext_getElem
  · simp
  · intro n h1 h2
    rw [List.getElem_set]
    split
    · subst_vars; rw [List.getD_eq_getElem?_getD, List.getElem?_eq_getElem hl]; rfl
    · rfl
theorem cutB_size (c : UInt8) (s : ByteArray) : (cutB c s).1.size ≤ s.size ∧ (cutB c s).2.1.size ≤ s.size ∧ ((cutB c s).2.2.1 = true → (cutB c s).2.1.size < s.size) := by
  unfold cutB
  have hl := toL_len s
  cases h : cutL c (toL s) with
  | none => exact ⟨Nat.le_refl _, Nat.zero_le _, fun h => by cases h⟩
  | some ar =>
    obtain ⟨a, r⟩ := ar
    have hz := cutL_len h
    dsimp only
    refine ⟨?_, ?_, fun _ => ?_⟩ <;> rw [ofL_size] <;> omega
theorem prog_line5 {k : Nat} (hk : Many k) {S : List LV} {id : Nat} {a : Act} {last : Nat} (h : S.getD id .any = .obj 98 (cellsP a (atI last))) (hlast : last ≤ 6) (he : HasErr S H.errG) (hg : HasErr S H.rngG) {n : Nat} (hl : ActLen a n) (hn : n ≤ 3000000) (s : ByteArray) (hs : s.size ≤ 3000000) :
    ∃ v, (lineOk last s = true → v = .obj 98 (cellsP (putA a (placeS (cutB 32 s).1) (cutB 32 s).2.1) (atI (placeS (cutB 32 s).1)))) ∧ ∀ J : Bool × Unit → List LV → Option R, G.action_actionReader_line.fn k ((id, 0), s, ()) S J = J (lineOk last s, ()) (S.set id v) := by
  unfold G.action_actionReader_line.fn
  dsimp only
  have hc := fun (S : List LV) (K : ByteArray × ByteArray × Bool × Unit → List LV → Option R) => cutS_at k 32 s (by omega) S K
  have u : UInt8.ofNat 32 = 32 := rfl
  rw [u] at hc
  simp only [hc, index_place hk, at_of h, P_ld, prog_q0 k h]
  have hz := cutB_size 32 s
  unfold lineOk
  have hp := placeS_le (cutB 32 s).1
  have hnf := next_eq hlast hp
  generalize placeS (cutB 32 s).1 = p at hp hnf
  have no : ∀ b : Bool, b = false → ∃ v, (b = true → v = .obj 98 (cellsP (putA a p (cutB 32 s).2.1) (atI p))) ∧ ∀ J : Bool × Unit → List LV → Option R, J (false, ()) S = J (b, ()) (S.set id v) := fun b hb => ⟨.obj 98 (cellsP a (atI last)), fun e => (by rw [hb] at e; cases e), fun J => by rw [set_self h, hb]⟩
  rw [hnf]
  cases (cutB 32 s).2.2.1 with
  | false => exact no _ rfl
  | true =>
    rw [Bool.not_true]
    simp only [ifB_false, Bool.true_and]
    cases hq : decide ((p : Int) - 1 < 0) with
    | true => exact no _ rfl
    | false =>
      have h1 : 1 ≤ p := by have := of_decide_eq_false hq; omega
      simp only [ifB_false, Bool.not_false, Bool.true_and]
      cases atI last == 6 with
      | true => exact no _ rfl
      | false =>
        simp only [ifB_false, Bool.not_false, Bool.true_and]
        cases (cond (((p : Int) - 1) == 0) (atI last == -1) (!(atI last == -1) && !(decide ((p : Int) - 1 < atI last)))) with
        | false => exact no _ rfl
        | true =>
          obtain ⟨v, h2, h3⟩ := prog_q1 (R := R) hk h he hg hl hn (cutB 32 s).2.1 (by omega) p h1 hp
          exact ⟨v, fun e => h2 (by rw [Bool.true_and] at e; exact e), fun J => by rw [cond_true, h3, Bool.true_and]⟩
end
end Go.Lm

/- Reading an action: the plain law, and the program's Read. -/
set_option maxRecDepth 100000
namespace Go.Lm
def Act.zero : Act := ⟨bs [], [], [], [], [], 0⟩
/-- What stands behind lines: the action, the place of the last one, how many lines. -/
def readA : Nat → ByteArray → Act → Nat → Nat → Except Nat (Act × Nat × Nat)
  | 0, _, _, _, at_ => .error at_
  | n + 1, text, a, last, at_ => cond (strEq text (bs [])) (.ok (a, last, at_)) (cond ((cutB 10 text).2.2.1 && lineOk last (cutB 10 text).1)
      (readA n (cutB 10 text).2.1 (putA a (placeS (cutB 32 (cutB 10 text).1).1) (cutB 32 (cutB 10 text).1).2.1) (placeS (cutB 32 (cutB 10 text).1).1) (at_ + 1)) (.error (at_ + 1)))
def readEnd (r : Except Nat (Act × Nat × Nat)) : Act × Nat × Int := match r with
  | .error e => (.zero, e, 10)
  | .ok (a, last, at_) => cond (decide (last = 6)) (cond (actS a == 0) (a, 0, 0) (.zero, 0, actS a)) (.zero, at_ + 1, 10)
def readActS (s : ByteArray) : Act × Nat × Int := cond (decide (s.size > 2000000)) (.zero, 0, 2) (readEnd (readA (s.size + 1) s .zero 0 0))
theorem splitW_size (c : UInt8) (s : ByteArray) : ∀ w ∈ splitW c s, w.size ≤ s.size := by
  intro w hw
  unfold splitW at hw
  rw [List.mem_map] at hw
  obtain ⟨l, hl, rfl⟩ := hw
  have h1 := join_len c (splitL c (toL s)) l hl
  rw [join_split c (toL s).length (toL s) (Nat.le_refl _), toL_len] at h1
  rw [ofL_size]; exact h1
/-- A step of the lines keeps what is known of them. -/
theorem read_step {text : ByteArray} {a : Act} {at_ : Nat} (hl : ActLen a at_) (ok : ActOk a) (hz : text.size + at_ ≤ 2000000) (hc : (cutB 10 text).2.2.1 = true) (p : Nat) :
    ActLen (putA a p (cutB 32 (cutB 10 text).1).2.1) (at_ + 1) ∧ ActOk (putA a p (cutB 32 (cutB 10 text).1).2.1) ∧ (cutB 10 text).2.1.size + (at_ + 1) ≤ 2000000 ∧ (cutB 10 text).2.1.size < text.size := by
  have h1 := cutB_size 10 text
  have h2 := cutB_size 32 (cutB 10 text).1
  have h3 := h1.2.2 hc
  refine ⟨hl.put _ _, ok.put p (by omega) (fun w hw => ?_) ?_, by omega, h3⟩
  · have := splitW_size 32 _ w hw
    omega
  · have h4 := (cutB_size 32 (cutB 32 (cutB 10 text).1).2.1).1
    show (cutB 32 (cutB 32 (cutB 10 text).1).2.1).1.size ≤ _
    omega
theorem readA_ok : ∀ (n : Nat) (text : ByteArray) (a : Act) (last at_ : Nat) (r : Act × Nat × Nat), ActLen a at_ → ActOk a → text.size + at_ ≤ 2000000 → last ≤ 6 → readA n text a last at_ = .ok r → ActOk r.1 ∧ r.2.1 ≤ 6 ∧ ActLen r.1 2000000 ∧ r.2.2 ≤ 2000000
  | 0, _, _, _, _, _, _, _, _, _, h => by cases h
  | n + 1, text, a, last, at_, r, hl, ok, hz, h6, h => by
    unfold readA at h
    cases he : strEq text (bs []) with
    | true =>
      rw [he] at h
      cases h
      exact ⟨ok, h6, ⟨by have := hl.cmds; dsimp only; omega, by have := hl.vars; dsimp only; omega, by have := hl.outs; dsimp only; omega, by have := hl.needs; dsimp only; omega⟩, by dsimp only; omega⟩
    | false =>
      rw [he, cond_false] at h
      cases hc : (cutB 10 text).2.2.1 with
      | false => rw [hc] at h; cases h
      | true =>
        rw [hc, Bool.true_and] at h
        cases hq : lineOk last (cutB 10 text).1 with
        | false => rw [hq] at h; cases h
        | true =>
          rw [hq, cond_true] at h
          obtain ⟨h1, h2, h3, _⟩ := read_step hl ok hz hc (placeS (cutB 32 (cutB 10 text).1).1)
          exact readA_ok n _ _ _ _ r h1 h2 h3 (placeS_le _) h
section
variable {R : Type}
theorem zero_tup : Act.zero.tup = zT := rfl
theorem prog_loop5 {k : Nat} (hk : Many k) (id : Nat) : ∀ (n m : Nat) (S : List LV) (text : ByteArray) (a : Act) (last at_ : Nat), S.getD id .any = .obj 98 (cellsP a (atI last)) → last ≤ 6 → HasErr S H.errG → HasErr S H.rngG → ActLen a at_ → ActOk a → text.size + at_ ≤ 2000000 → text.size < n → n ≤ m →
    match readA n text a last at_ with
    | .error e => ∃ v, ∀ (J : ActT × (Nat × Nat) × Int × Unit → List LV → Option R) (Jret : ActT × Int × Int × Unit → List LV → Option R), rounds (G.action_Read.b0 k J Jret) m (text, zT, (id, 0), (at_ : Int) + 1, ()) S = Jret (zT, (e : Int), 10, ()) (S.set id v)
    | .ok r => ∀ (J : ActT × (Nat × Nat) × Int × Unit → List LV → Option R) (Jret : ActT × Int × Int × Unit → List LV → Option R), rounds (G.action_Read.b0 k J Jret) m (text, zT, (id, 0), (at_ : Int) + 1, ()) S = J (zT, (id, 0), (r.2.2 : Int) + 1, ()) (S.set id (.obj 98 (cellsP r.1 (atI r.2.1))))
  | 0, _, _, _, _, _, _, _, _, _, _, _, _, _, h, _ => by omega
  | n + 1, m, S, text, a, last, at_, h, h6, he, hg, hl, ok, hz, hn, hm => by
    obtain ⟨m, rfl⟩ : ∃ m', m = m' + 1 := ⟨m - 1, by omega⟩
    unfold readA
    have hc := fun (S : List LV) (K : ByteArray × ByteArray × Bool × Unit → List LV → Option R) => cutS_at k 10 text (by omega) S K
    have u : UInt8.ofNat 10 = 10 := rfl
    rw [u] at hc
    have hround : ∀ (J : ActT × (Nat × Nat) × Int × Unit → List LV → Option R) (Jret : ActT × Int × Int × Unit → List LV → Option R), rounds (G.action_Read.b0 k J Jret) (m + 1) (text, zT, (id, 0), (at_ : Int) + 1, ()) S =
        ifB (!(strEq text (bs []))) (ifB (!(cutB 10 text).2.2.1) (Jret (zT, (at_ : Int) + 1, 10, ()) S) (G.action_actionReader_line.fn k ((id, 0), (cutB 10 text).1, ()) S fun r6 S => ifB (!r6.1) (Jret (zT, (at_ : Int) + 1, 10, ()) S) (rounds (G.action_Read.b0 k J Jret) m ((cutB 10 text).2.1, zT, (id, 0), IntKind.wrap .i64 ((at_ : Int) + 1 + 1), ()) S))) (J (zT, (id, 0), (at_ : Int) + 1, ()) S) := fun J Jret => by
      rw [rounds_succ]
      show G.action_Read.b0 k J Jret (rounds (G.action_Read.b0 k J Jret) m) (text, zT, (id, 0), (at_ : Int) + 1, ()) S = _
      unfold G.action_Read.b0 G.action_Read.q0 G.action_Read.q1
      dsimp only
      rw [hc]
      rfl
    simp only [hround]
    cases hs : strEq text (bs []) with
    | true =>
      intro J Jret
      rw [Bool.not_true, ifB_false, set_self h]
    | false =>
      rw [cond_false]
      simp only [Bool.not_false, ifB_true]
      cases hb : (cutB 10 text).2.2.1 with
      | false =>
        exact ⟨.obj 98 (cellsP a (atI last)), fun J Jret => by rw [Bool.not_false, ifB_true, set_self h]; rfl⟩
      | true =>
        simp only [Bool.not_true, ifB_false, Bool.true_and]
        have h1 := cutB_size 10 text
        obtain ⟨v, hv1, hv2⟩ := prog_line5 (R := R) hk h h6 he hg hl (by omega) (cutB 10 text).1 (by omega)
        simp only [hv2]
        cases hq : lineOk last (cutB 10 text).1 with
        | false =>
          exact ⟨v, fun J Jret => rfl⟩
        | true =>
          have hv := hv1 hq
          obtain ⟨g1, g2, g3, g4⟩ := read_step hl ok hz hb (placeS (cutB 32 (cutB 10 text).1).1)
          have hw : IntKind.wrap .i64 ((at_ : Int) + 1 + 1) = ((at_ + 1 : Nat) : Int) + 1 := by rw [wrap_id (by omega) (by omega)]; omega
          simp only [Bool.not_true, ifB_false, cond_true, hw]
          have ih := prog_loop5 hk id n m (S.set id v) (cutB 10 text).2.1 _ _ (at_ + 1) (by rw [has_set h, hv]) (placeS_le _) (he.put h _) (hg.put h _) g1 g2 g3 (by omega) (by omega)
          cases hr : readA n (cutB 10 text).2.1 (putA a (placeS (cutB 32 (cutB 10 text).1).1) (cutB 32 (cutB 10 text).1).2.1) (placeS (cutB 32 (cutB 10 text).1).1) (at_ + 1) with
          | error e =>
            rw [hr] at ih
            obtain ⟨w, hw2⟩ := ih
            exact ⟨w, fun J Jret => by rw [hw2, List.set_set]⟩
          | ok r =>
            rw [hr] at ih
            intro J Jret
            rw [ih, List.set_set]
theorem P_all (a : Act) (t : Int) (K : ByteArray → List LV → List LV → List LV → List LV → Int → Option R) :
    (ifB (Nat.ble ((0 + 0) + 6) (cellsP a t).length) (asStr (((cellsP a t).map dupL).getD (0 + 0) .any) fun s14 => asSl 1 (((cellsP a t).map dupL).getD ((0 + 0) + 1) .any) fun l15 => asSl 2 (((cellsP a t).map dupL).getD (((0 + 0) + 1) + 1) .any) fun l16 => asSl 1 (((cellsP a t).map dupL).getD ((((0 + 0) + 1) + 1) + 1) .any) fun l17 => asSl 2 (((cellsP a t).map dupL).getD (((((0 + 0) + 1) + 1) + 1) + 1) .any) fun l18 => asInt .i64 (((cellsP a t).map dupL).getD ((((((0 + 0) + 1) + 1) + 1) + 1) + 1) .any) fun n19 => K s14 l15 l16 l17 l18 n19) none) =
      K a.tool (a.cmds.map cmdL) (a.vars.map varL) (a.outs.map .str) (a.needs.map varL) a.time := by
  show asSl 1 (dupL (ow 40 1 (a.cmds.map cmdL))) (fun l15 => asSl 2 (dupL (ow 106 2 (a.vars.map varL))) fun l16 => asSl 1 (dupL (ow 9 1 (a.outs.map LV.str))) fun l17 => asSl 2 (dupL (ow 106 2 (a.needs.map varL))) fun l18 => K a.tool l15 l16 l17 l18 a.time) = _
  rw [asSl_ow, asSl_ow, asSl_ow, asSl_ow]
theorem zero_ok : ActOk .zero := ⟨by decide, (fun _ h => by cases h), (fun _ h => by cases h), (fun _ h => by cases h), (fun _ h => by cases h)⟩
theorem zero_len : ActLen .zero 0 := ⟨Nat.le_refl _, Nat.le_refl _, Nat.le_refl _, Nat.le_refl _⟩
theorem atI_six {last : Nat} (h : last ≤ 6) : (atI last != 6) = !(decide (last = 6)) := by
  have : ∀ l : Fin 7, (atI l.1 != 6) = !(decide (l.1 = 6)) := by decide
  exact this ⟨last, by omega⟩
theorem prog_Read0 {k : Nat} (hk : Many k) (s : ByteArray) (S : List LV) (he : HasErr S H.errG) (hg : HasErr S H.rngG) : ∃ X, ∀ K : ActT × Int × Int × Unit → List LV → Option R, G.action_Read.fn0 k (s, ()) S K = K ((readActS s).1.tup, ((readActS s).2.1 : Int), (readActS s).2.2, ()) (S ++ X) := by
  have hk' := hk
  unfold Many at hk'
  unfold G.action_Read.fn0 readActS
  have e1 : decide ((s.size : Int) > (2000000 : Int)) = decide (s.size > 2000000) := gt_nat _ 2000000
  dsimp only
  simp only [e1]
  cases hc : decide (s.size > 2000000) with
  | true => exact ⟨[], fun K => by rw [List.append_nil]; rfl⟩
  | false =>
    have hs : s.size ≤ 2000000 := by have := of_decide_eq_false hc; omega
    unfold newObj
    simp only [ifB_false, cond_false]
    have ih := prog_loop5 (R := R) hk S.length (s.size + 1) k (S ++ [.obj 98 (cellsP .zero (atI 0))]) s .zero 0 0 (get_last _ _) (by omega) (he.app _) (hg.app _) zero_len zero_ok (by omega) (by omega) (by omega)
    have hrd := readA_ok (s.size + 1) s .zero 0 0
    cases hr : readA (s.size + 1) s .zero 0 0 with
    | error e =>
      rw [hr] at ih
      obtain ⟨v, hv⟩ := ih
      refine ⟨[v], fun K => ?_⟩
      refine Eq.trans (hv _ _) ?_
      rw [set_last]; rfl
    | ok r =>
      rw [hr] at ih hrd
      obtain ⟨ok, h6, _⟩ := hrd r zero_len zero_ok (by omega) (by omega) rfl
      obtain ⟨a, last, at_⟩ := r
      dsimp only at ok h6 ih
      refine ⟨[.obj 98 (cellsP a (atI last))], fun K => ?_⟩
      refine Eq.trans (ih _ _) ?_
      rw [set_last]
      simp only [at_of (get_last _ _), P_ld, atI_six h6]
      unfold readEnd
      dsimp only
      cases decide (last = 6) with
      | false => rfl
      | true =>
        simp only [Bool.not_true, ifB_false, P_all, cond_true]
        have ha := fun (S : List LV) (K : Int × Unit → List LV → Option R) => prog_CheckAction hk a ok S K
        unfold Act.tup at ha
        simp only [ha, ne0, at_of (get_last _ _), P_all]
        cases actS a == 0 <;> rfl
theorem cmds_noId (l : List (List ByteArray)) : (l.map cmdL).all (noId 3) = true := by
  rw [List.all_map, List.all_eq_true]
  intro c _
  show ((c.map LV.str).all (noId 2)) = true
  rw [List.all_map, List.all_eq_true]
  intro w _; rfl
theorem vars_noId (l : List AVar) : (l.map varL).all (noId 3) = true := by
  rw [List.all_map, List.all_eq_true]
  intro x _; rfl
theorem strs_noId (l : List ByteArray) : (l.map LV.str).all (noId 3) = true := by
  rw [List.all_map, List.all_eq_true]
  intro x _; rfl
theorem noId_act (x : Act × Nat × Int) : noId 6 (resE G.action_Read.rs (x.1.tup, (x.2.1 : Int), x.2.2, ())) = true := by
  obtain ⟨a, n, f⟩ := x
  show ([LV.agg [.str a.tool, .sl 1 (a.cmds.map cmdL), .sl 2 (a.vars.map varL), .sl 1 (a.outs.map .str), .sl 2 (a.needs.map varL), .int .i64 a.time], .int .i64 n, .int .i64 f].all (noId 5)) = true
  have h1 := cmds_noId a.cmds
  have h2 := vars_noId a.vars
  have h3 := strs_noId a.outs
  have h4 := vars_noId a.needs
  simp only [List.all_cons, List.all_nil, Bool.and_true, Bool.and_eq_true]
  refine ⟨?_, rfl, rfl⟩
  show ([LV.str a.tool, .sl 1 (a.cmds.map cmdL), .sl 2 (a.vars.map varL), .sl 1 (a.outs.map .str), .sl 2 (a.needs.map varL), .int .i64 a.time].all (noId 4)) = true
  simp only [List.all_cons, List.all_nil, Bool.and_true, Bool.and_eq_true]
  exact ⟨rfl, h1, h2, h3, h4, rfl⟩
theorem prog_Read {k : Nat} (hk : Many k) (s : ByteArray) (S : List LV) (he : HasErr S H.errG) (hg : HasErr S H.rngG) (K : ActT × Int × Int × Unit → List LV → Option R) : G.action_Read.fn k (s, ()) S K = K ((readActS s).1.tup, ((readActS s).2.1 : Int), (readActS s).2.2, ()) S := by
  obtain ⟨X, h⟩ := prog_Read0 (R := LV × List LV) hk s S he hg
  exact popK_at (h _) (noId_act _)
end
end Go.Lm

/- Reading an action: the reference's Read, and the law. -/
set_option maxRecDepth 100000
namespace Go.Lm
section
variable {R : Type}
def cellsR (a : Act) : List LV := [.str a.tool, ow 40 1 (a.cmds.map cmdL), ow 106 2 (a.vars.map varL), ow 9 1 (a.outs.map .str), ow 106 2 (a.needs.map varL), .int .i64 a.time]
theorem R_tool (a : Act) (s : ByteArray) (K : List LV → Option R) : stO (cellsR a) (0 + 0) [.str s] K = K (cellsR { a with tool := s }) := rfl
theorem R_time (a : Act) (n : Int) (K : List LV → Option R) : stO (cellsR a) (0 + 5) [.int .i64 n] K = K (cellsR { a with time := n }) := rfl
theorem R_o1 (a : Act) (K : List LV → Option R) : asOwn 40 1 ((cellsR a).getD (0 + 1) .any) K = K (a.cmds.map cmdL) := asOwn_ow 40 1 _ K
theorem R_o2 (a : Act) (K : List LV → Option R) : asOwn 106 2 ((cellsR a).getD (0 + 2) .any) K = K (a.vars.map varL) := asOwn_ow 106 2 _ K
theorem R_o3 (a : Act) (K : List LV → Option R) : asOwn 9 1 ((cellsR a).getD (0 + 3) .any) K = K (a.outs.map .str) := asOwn_ow 9 1 _ K
theorem R_o4 (a : Act) (K : List LV → Option R) : asOwn 106 2 ((cellsR a).getD (0 + 4) .any) K = K (a.needs.map varL) := asOwn_ow 106 2 _ K
theorem R_s1 (a : Act) (v : LV) (c : List ByteArray) (K : List LV → Option R) : stO ((cellsR a).set (0 + 1) v) (0 + 1) [.own 40 1 (a.cmds.map cmdL ++ [.sl 1 (c.map .str)])] K = K (cellsR { a with cmds := a.cmds ++ [c] }) := by
  rw [cmd_snoc]; rfl
theorem R_s2 (a : Act) (v : LV) (x y : ByteArray) (K : List LV → Option R) : stO ((cellsR a).set (0 + 2) v) (0 + 2) [.own 106 2 (a.vars.map varL ++ [.agg [.str x, .str y]])] K = K (cellsR { a with vars := a.vars ++ [(x, y)] }) := by
  rw [var_snoc a.vars (x, y)]; rfl
theorem R_s3 (a : Act) (v : LV) (s : ByteArray) (K : List LV → Option R) : stO ((cellsR a).set (0 + 3) v) (0 + 3) [.own 9 1 (a.outs.map .str ++ [.str s])] K = K (cellsR { a with outs := a.outs ++ [s] }) := by
  rw [str_snoc]; rfl
theorem R_s4 (a : Act) (v : LV) (x y : ByteArray) (K : List LV → Option R) : stO ((cellsR a).set (0 + 4) v) (0 + 4) [.own 106 2 (a.needs.map varL ++ [.agg [.str x, .str y]])] K = K (cellsR { a with needs := a.needs ++ [(x, y)] }) := by
  rw [var_snoc a.needs (x, y)]; rfl
def apartL (s : ByteArray) : List ByteArray := cond (noEmp s) (splitW 32 s) []
theorem one_split (s : ByteArray) : oneS s = cond (noEmp s) (((splitW 32 s).length : Int) == 1) false := by
  unfold oneS noEmp splitW cutB
  rw [List.length_map]
  have hsp := splitL_cut 32 (toL s)
  cases hc : cutL 32 (toL s) with
  | none =>
    rw [hc] at hsp
    dsimp only at hsp ⊢
    rw [hsp]
    have e : strEq s (bs []) = (toL s).isEmpty := by
      rw [Bool.eq_iff_iff, strEq_iff]
      constructor
      · intro h; rw [h]; rfl
      · intro h
        have : toL s = [] := by simpa using h
        exact toL_inj (by rw [this]; rfl)
    rw [e]
    simp only [List.any_cons, List.any_nil, Bool.or_false]
    cases (toL s).isEmpty <;> rfl
  | some ar =>
    obtain ⟨x, r⟩ := ar
    rw [hc] at hsp
    dsimp only at hsp ⊢
    rw [hsp]
    have h1 : splitL 32 r ≠ [] := splitL_ne 32 r
    have h4 : ((((x :: splitL 32 r).length : Nat) : Int) == 1) = false := by
      rw [beq_eq_false_iff_ne]
      cases h3 : splitL 32 r with
      | nil => exact absurd h3 h1
      | cons y z =>
        intro h
        simp only [List.length_cons] at h
        omega
    rw [h4]
    simp
/-! ### the reference's loop -/
theorem next_ne {last p : Nat} (h : nextOk last p = true) : p ≠ 0 := by
  intro e
  subst e
  cases h
theorem R_all (a : Act) (K : ByteArray → List LV → List LV → List LV → List LV → Int → Option R) :
    (ifB (Nat.ble (0 + 6) (cellsR a).length) (asStr (((cellsR a).map dupL).getD 0 .any) fun s14 => asSl 1 (((cellsR a).map dupL).getD (0 + 1) .any) fun l15 => asSl 2 (((cellsR a).map dupL).getD ((0 + 1) + 1) .any) fun l16 => asSl 1 (((cellsR a).map dupL).getD (((0 + 1) + 1) + 1) .any) fun l17 => asSl 2 (((cellsR a).map dupL).getD ((((0 + 1) + 1) + 1) + 1) .any) fun l18 => asInt .i64 (((cellsR a).map dupL).getD (((((0 + 1) + 1) + 1) + 1) + 1) .any) fun n19 => K s14 l15 l16 l17 l18 n19) none) =
      K a.tool (a.cmds.map cmdL) (a.vars.map varL) (a.outs.map .str) (a.needs.map varL) a.time := by
  show asSl 1 (dupL (ow 40 1 (a.cmds.map cmdL))) (fun l15 => asSl 2 (dupL (ow 106 2 (a.vars.map varL))) fun l16 => asSl 1 (dupL (ow 9 1 (a.outs.map LV.str))) fun l17 => asSl 2 (dupL (ow 106 2 (a.needs.map varL))) fun l18 => K a.tool l15 l16 l17 l18 a.time) = _
  rw [asSl_ow, asSl_ow, asSl_ow, asSl_ow]
end
end Go.Lm

/- Actions compared, and the law of reading. -/
set_option maxRecDepth 100000
namespace Go.Lm
section
variable {R : Type}
theorem readA_cmds : ∀ (n : Nat) (text : ByteArray) (a : Act) (last at_ : Nat) (r : Act × Nat × Nat), text.size ≤ 2000000 → (∀ c ∈ a.cmds, c.length ≤ 2000001) → readA n text a last at_ = .ok r → ∀ c ∈ r.1.cmds, c.length ≤ 2000001
  | 0, _, _, _, _, _, _, _, h => by cases h
  | n + 1, text, a, last, at_, r, hz, hc, h => by
    unfold readA at h
    cases he : strEq text (bs []) with
    | true =>
      rw [he] at h
      cases h
      exact hc
    | false =>
      rw [he, cond_false] at h
      cases hb : ((cutB 10 text).2.2.1 && lineOk last (cutB 10 text).1) with
      | false => rw [hb] at h; cases h
      | true =>
        rw [hb, cond_true] at h
        have h1 := cutB_size 10 text
        have h2 := cutB_size 32 (cutB 10 text).1
        refine readA_cmds n _ _ _ _ r (by omega) ?_ h
        have hs := splitW_len 32 (cutB 32 (cutB 10 text).1).2.1
        unfold putA
        split
        · exact hc
        · intro c hcm
          rcases List.mem_append.1 hcm with h3 | h3
          · exact hc c h3
          · rw [List.mem_singleton.1 h3]; omega
        · exact hc
        · exact hc
        · exact hc
        · exact hc
theorem readActS_len (s : ByteArray) : ActLen (readActS s).1 2000000 ∧ ∀ c ∈ (readActS s).1.cmds, c.length ≤ 140737488355328 := by
  have hzero : ActLen Act.zero 2000000 ∧ ∀ c ∈ Act.zero.cmds, c.length ≤ 140737488355328 := ⟨⟨by decide, by decide, by decide, by decide⟩, fun c h => by cases h⟩
  unfold readActS
  cases hc : decide (s.size > 2000000) with
  | true => exact hzero
  | false =>
    have hs : s.size ≤ 2000000 := by have := of_decide_eq_false hc; omega
    rw [cond_false]
    cases hr : readA (s.size + 1) s .zero 0 0 with
    | error e => exact hzero
    | ok r =>
      obtain ⟨_, _, h3, _⟩ := readA_ok _ _ _ _ _ r zero_len zero_ok (by omega) (by omega) hr
      have h4 := readA_cmds _ _ _ _ _ r hs (fun c h => by cases h) hr
      obtain ⟨a, last, at_⟩ := r
      unfold readEnd
      dsimp only
      cases decide (last = 6) with
      | false => exact hzero
      | true =>
        rw [cond_true]
        cases actS a == 0 with
        | false => exact hzero
        | true => exact ⟨h3, fun c hcm => Nat.le_trans (h4 c hcm) (by decide)⟩
end
end Go.Lm
