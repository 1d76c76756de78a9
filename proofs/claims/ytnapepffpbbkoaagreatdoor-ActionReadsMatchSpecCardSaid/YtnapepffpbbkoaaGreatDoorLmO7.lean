/- Reading an action: the reference's Read, and the law. -/
import Derived.Test.YtnapepffpbbkoaaGreatDoorLmO6
set_option maxRecDepth 100000
namespace Go.Lm
section
variable {R : Type}
def cellsR (a : Act) : List LV := [.str a.tool, ow 40 1 (a.cmds.map cmdL), ow 106 2 (a.vars.map varL), ow 9 1 (a.outs.map .str), ow 106 2 (a.needs.map varL), .int .i64 a.time]
theorem R_tool (a : Act) (s : ByteArray) (K : List LV → Option R) : stO (cellsR a) (0 + 0) [.str s] K = K (cellsR { a with tool := s }) := rfl
theorem R_time (a : Act) (n : Int) (K : List LV → Option R) : stO (cellsR a) (0 + 5) [.int .i64 n] K = K (cellsR { a with time := n }) := rfl
theorem R_o1 (a : Act) (K : List LV → Option R) : asOwn 40 1 ((cellsR a).getD (0 + 1) .any) K = K (a.cmds.map cmdL) := asOwn_ow 40 1 _ K
theorem R_o2 (a : Act) (K : List LV → Option R) : asOwn 106 2 ((cellsR a).getD (0 + 2) .any) K = K (a.vars.map varL) := asOwn_ow 106 2 _ K
theorem R_o3 (a : Act) (K : List LV → Option R) : asOwn 9 1 ((cellsR a).getD (0 + 3) .any) K = K (a.outs.map .str) := asOwn_ow 9 1 _ K
theorem R_o4 (a : Act) (K : List LV → Option R) : asOwn 106 2 ((cellsR a).getD (0 + 4) .any) K = K (a.needs.map varL) := asOwn_ow 106 2 _ K
theorem R_s1 (a : Act) (v : LV) (c : List ByteArray) (K : List LV → Option R) : stO ((cellsR a).set (0 + 1) v) (0 + 1) [.own 40 1 (a.cmds.map cmdL ++ [.sl 1 (c.map .str)])] K = K (cellsR { a with cmds := a.cmds ++ [c] }) := by
  rw [cmd_snoc]; rfl
theorem R_s2 (a : Act) (v : LV) (x y : ByteArray) (K : List LV → Option R) : stO ((cellsR a).set (0 + 2) v) (0 + 2) [.own 106 2 (a.vars.map varL ++ [.agg [.str x, .str y]])] K = K (cellsR { a with vars := a.vars ++ [(x, y)] }) := by
  rw [var_snoc a.vars (x, y)]; rfl
theorem R_s3 (a : Act) (v : LV) (s : ByteArray) (K : List LV → Option R) : stO ((cellsR a).set (0 + 3) v) (0 + 3) [.own 9 1 (a.outs.map .str ++ [.str s])] K = K (cellsR { a with outs := a.outs ++ [s] }) := by
  rw [str_snoc]; rfl
theorem R_s4 (a : Act) (v : LV) (x y : ByteArray) (K : List LV → Option R) : stO ((cellsR a).set (0 + 4) v) (0 + 4) [.own 106 2 (a.needs.map varL ++ [.agg [.str x, .str y]])] K = K (cellsR { a with needs := a.needs ++ [(x, y)] }) := by
  rw [var_snoc a.needs (x, y)]; rfl
def apartL (s : ByteArray) : List ByteArray := cond (noEmp s) (splitW 32 s) []
theorem ref_apart5 {k : Nat} (hk : Many k) (s : ByteArray) (hs : s.size ≤ 3000000) (S : List LV) (K : List LV × Bool × Unit → List LV → Option R) : G.smithyardref5_apart.fn k (s, ()) S K = K ((apartL s).map .str, noEmp s, ()) S := by
  have h := ref_apart hk (toL s) (by rw [toL_len]; omega) S K
  rw [ofL_toL] at h
  rw [h]
  unfold apartL noEmp
  cases (splitL 32 (toL s)).any List.isEmpty <;> rfl
theorem one_split (s : ByteArray) : oneS s = cond (noEmp s) (((splitW 32 s).length : Int) == 1) false := by
  unfold oneS noEmp splitW cutB
  rw [List.length_map]
  have hsp := splitL_cut 32 (toL s)
  cases hc : cutL 32 (toL s) with
  | none =>
    rw [hc] at hsp
    dsimp only at hsp ⊢
    rw [hsp]
    have e : strEq s (bs []) = (toL s).isEmpty := by
      rw [Bool.eq_iff_iff, strEq_iff]
      constructor
      · intro h; rw [h]; rfl
      · intro h
        have : toL s = [] := by simpa using h
        exact toL_inj (by rw [this]; rfl)
    rw [e]
    simp only [List.any_cons, List.any_nil, Bool.or_false]
    cases (toL s).isEmpty <;> rfl
  | some ar =>
    obtain ⟨x, r⟩ := ar
    rw [hc] at hsp
    dsimp only at hsp ⊢
    rw [hsp]
    have h1 : splitL 32 r ≠ [] := splitL_ne 32 r
    have h4 : ((((x :: splitL 32 r).length : Nat) : Int) == 1) = false := by
      rw [beq_eq_false_iff_ne]
      cases h3 : splitL 32 r with
      | nil => exact absurd h3 h1
      | cons y z =>
        intro h
        simp only [List.length_cons] at h
        omega
    rw [h4]
    simp
theorem ref_take {k : Nat} (hk : Many k) {S : List LV} {id : Nat} {a : Act} (h : S.getD id .any = .obj 42 (cellsR a)) {n : Nat} (hl : ActLen a n) (hn : n ≤ 3000000) (word rest : ByteArray) (hr : rest.size ≤ 3000000) (hp : placeS word ≠ 0) :
    ∃ v, (okA (placeS word) rest = true → v = .obj 42 (cellsR (putA a (placeS word) rest))) ∧ ∀ J : Bool × Unit → List LV → Option R, G.smithyardref5_take.fn k ((id, 0), word, rest, ()) S J = J (okA (placeS word) rest, ()) (S.set id v) := by
  have hcm : (a.cmds.map cmdL).length ≤ 3000000 := by rw [List.length_map]; exact Nat.le_trans hl.cmds hn
  have hva : (a.vars.map varL).length ≤ 3000000 := by rw [List.length_map]; exact Nat.le_trans hl.vars hn
  have hou : (a.outs.map LV.str).length ≤ 3000000 := by rw [List.length_map]; exact Nat.le_trans hl.outs hn
  have hne : (a.needs.map varL).length ≤ 3000000 := by rw [List.length_map]; exact Nat.le_trans hl.needs hn
  unfold G.smithyardref5_take.fn
  have u : UInt8.ofNat 32 = 32 := rfl
  have hc := fun (S : List LV) (K : ByteArray × ByteArray × Bool × Unit → List LV → Option R) => cutS_at k 32 rest (by omega) S K
  rw [u] at hc
  dsimp only
  simp only [ref_apart5 hk rest hr, hc, at_of h, setS_of]
  revert hp
  unfold placeS
  cases strEq word (bs [116, 111, 111, 108]) with
  | true =>
    intro _
    simp only [cond_true]
    refine ⟨.obj 42 (cellsR { a with tool := rest }), fun _ => rfl, fun J => ?_⟩
    unfold G.smithyardref5_take.q0
    simp only [ifB_true, R_tool]
    show _ = J (oneS rest, ()) _
    rw [one_split]
    unfold apartL
    cases noEmp rest with
    | true => simp only [ifB_true, cond_true, List.length_map]
    | false => rfl
  | false =>
  simp only [cond_false]
  cases strEq word (bs [100, 111]) with
  | true =>
    intro _
    simp only [cond_true]
    refine ⟨.obj 42 (cellsR { a with cmds := a.cmds ++ [apartL rest] }), fun hy => ?_, fun J => ?_⟩
    · have : noEmp rest = true := hy
      unfold apartL
      rw [this]; rfl
    · simp only [ifB_true, ifB_false, R_o1, app_one' hcm (show 24 ≤ 100 by decide), at_of (has_set h _), R_s1, List.set_set]
      rfl
  | false =>
  simp only [cond_false]
  cases strEq word (bs [118, 97, 114]) with
  | true =>
    intro _
    simp only [cond_true]
    refine ⟨.obj 42 (cellsR { a with vars := a.vars ++ [varOf rest] }), fun _ => rfl, fun J => ?_⟩
    unfold G.smithyardref5_take.q1
    simp only [ifB_true, ifB_false, R_o2, app_one' hva (show 32 ≤ 100 by decide), at_of (has_set h _), R_s2, List.set_set]
    show _ = J ((cutB 32 rest).2.2.1 && !(strEq (cutB 32 rest).1 (bs [])), ()) _
    cases (cutB 32 rest).2.2.1 <;> rfl
  | false =>
  simp only [cond_false]
  unfold G.smithyardref5_take.q2
  dsimp only
  cases strEq word (bs [111, 117, 116]) with
  | true =>
    intro _
    simp only [cond_true]
    refine ⟨.obj 42 (cellsR { a with outs := a.outs ++ [rest] }), fun _ => rfl, fun J => ?_⟩
    unfold G.smithyardref5_take.q3
    simp only [ifB_true, ifB_false, at_of h, setS_of, R_o3, app_one' hou (show 16 ≤ 100 by decide), at_of (has_set h _), R_s3, List.set_set]
    show _ = J (oneS rest, ()) _
    rw [one_split]
    unfold apartL
    cases noEmp rest with
    | true => simp only [ifB_true, cond_true, List.length_map]
    | false => rfl
  | false =>
  simp only [cond_false]
  unfold G.smithyardref5_take.q4
  dsimp only
  cases strEq word (bs [110, 101, 101, 100]) with
  | true =>
    intro _
    simp only [cond_true]
    refine ⟨.obj 42 (cellsR { a with needs := a.needs ++ [varOf rest] }), fun _ => rfl, fun J => ?_⟩
    unfold G.smithyardref5_take.q5
    simp only [ifB_true, ifB_false, at_of h, setS_of, R_o4, app_one' hne (show 32 ≤ 100 by decide), at_of (has_set h _), R_s4, List.set_set]
    show _ = J ((cutB 32 rest).2.2.1 && !(strEq (cutB 32 rest).1 (bs [])), ()) _
    cases (cutB 32 rest).2.2.1 <;> rfl
  | false =>
  simp only [cond_false]
  cases strEq word (bs [116, 105, 109, 101]) with
  | false => intro hp; exact absurd rfl hp
  | true =>
    intro _
    simp only [cond_true, ifB_false]
    unfold G.smithyardref5_take.q6 G.smithyardref5_take.q7
    dsimp only
    have hnum : ∀ (S : List LV) (K : Int × Bool × Unit → List LV → Option R), G.smithyardref5_numbered.fn k (rest, 9, ()) S K = K (numD rest 9, isNumS rest 9, ()) S := fun S K => ref_numberedD hk rest 9 (by decide) (by omega) S K
    refine ⟨.obj 42 (cellsR { a with time := numD rest 9 }), fun hy => ?_, fun J => ?_⟩
    · have : isNumS rest 9 = true := hy
      unfold numD
      rw [this]; rfl
    · simp only [hnum, at_of h, R_time, setS_of]
      rfl
/-! ### the reference's loop -/
theorem ref_q0 (k : Nat) (id : Nat) (last p at_ : Nat) (next : ByteArray) (ends : Bool) (word rest : ByteArray) (has : Bool) (S : List LV) (Jnrm : ByteArray × ActT × (Nat × Nat) × Int × Int × Unit → List LV → Option R) (Jret : ActT × Int × Int × Unit → List LV → Option R) :
    G.smithyardref5_Read.q0 k Jnrm Jret (zT, (id, 0), (last : Int), (at_ : Int), next, ends, word, rest, has, (p : Int), ()) S =
      cond (ends && (has && nextOk last p)) (G.smithyardref5_take.fn k ((id, 0), word, rest, ()) S fun r S => cond r.1 (Jnrm (next, zT, (id, 0), (p : Int), (at_ : Int), ()) S) (Jret (zT, (at_ : Int), 10, ()) S)) (Jret (zT, (at_ : Int), 10, ()) S) := by
  unfold G.smithyardref5_Read.q0 G.smithyardref5_Read.q1 G.smithyardref5_Read.q2 G.smithyardref5_Read.q3
  dsimp only
  have e0 := eq0_nat p
  have e1 := eq0_nat last
  have e2 : ((p : Int) == (last : Int)) = decide (p = last) := by
    rw [Bool.eq_iff_iff, beq_iff_eq, decide_eq_true_iff]; omega
  have e3 : decide ((p : Int) ≥ 2) = decide (2 ≤ p) := by rw [Bool.eq_iff_iff, decide_eq_true_iff, decide_eq_true_iff]; omega
  have e4 : decide ((p : Int) ≤ 5) = decide (p ≤ 5) := by rw [Bool.eq_iff_iff, decide_eq_true_iff, decide_eq_true_iff]; omega
  have e5 : ((p : Int) != 1) = !(decide (p = 1)) := by
    show (!((p : Int) == 1)) = _
    congr 1
    rw [Bool.eq_iff_iff, beq_iff_eq, decide_eq_true_iff]; omega
  have e6 := lt_nat p last
  have ht : ∀ (r : Bool × Unit) (A B : Option R), ifB (!r.1) A B = cond r.1 B A := fun r A B => by
    obtain ⟨b, _⟩ := r
    cases b <;> rfl
  simp only [e0, e1, e2, e3, e4, e5, e6, ht, ifB_true]
  unfold nextOk
  have z : ∀ f : ActT → Option R, f (zT.1, zT.2.1, zT.2.2.1, zT.2.2.2.1, zT.2.2.2.2.1, zT.2.2.2.2.2.1, ()) = f zT := fun _ => rfl
  have zz : (bs [], [], [], [], [], (0 : Int), ()) = zT := rfl
  simp only [zz]
  generalize decide (p = 0) = b0
  generalize decide (last = 0) = b1
  generalize decide (p < last) = b2
  generalize decide (p = last) = b3
  generalize decide (2 ≤ p) = b4
  generalize decide (p ≤ 5) = b5
  generalize decide (p = 1) = b6
  cases ends with
  | false => cases b3 <;> cases b4 <;> rfl
  | true =>
  cases has with
  | false => cases b3 <;> cases b4 <;> rfl
  | true =>
  cases b0 with
  | true => cases b3 <;> cases b4 <;> rfl
  | false =>
  cases b2 with
  | true => cases b3 <;> cases b4 <;> rfl
  | false =>
  cases b3 with
  | false => cases b1 <;> cases b6 <;> rfl
  | true => cases b4 <;> cases b5 <;> cases b1 <;> cases b6 <;> rfl
theorem next_ne {last p : Nat} (h : nextOk last p = true) : p ≠ 0 := by
  intro e
  subst e
  cases h
theorem ref_loop5 {k : Nat} (hk : Many k) (id : Nat) : ∀ (n m : Nat) (S : List LV) (text : ByteArray) (a : Act) (last at_ : Nat), S.getD id .any = .obj 42 (cellsR a) → last ≤ 6 → ActLen a at_ → ActOk a → text.size + at_ ≤ 2000000 → text.size < n → n ≤ m →
    match readA n text a last at_ with
    | .error e => ∃ v, ∀ (J : ActT × (Nat × Nat) × Int × Int × Unit → List LV → Option R) (Jret : ActT × Int × Int × Unit → List LV → Option R), rounds (G.smithyardref5_Read.b0 k J Jret) m (text, zT, (id, 0), (last : Int), (at_ : Int), ()) S = Jret (zT, (e : Int), 10, ()) (S.set id v)
    | .ok r => ∀ (J : ActT × (Nat × Nat) × Int × Int × Unit → List LV → Option R) (Jret : ActT × Int × Int × Unit → List LV → Option R), rounds (G.smithyardref5_Read.b0 k J Jret) m (text, zT, (id, 0), (last : Int), (at_ : Int), ()) S = J (zT, (id, 0), (r.2.1 : Int), (r.2.2 : Int), ()) (S.set id (.obj 42 (cellsR r.1)))
  | 0, _, _, _, _, _, _, _, _, _, _, _, h, _ => by omega
  | n + 1, m, S, text, a, last, at_, h, h6, hl, ok, hz, hn, hm => by
    obtain ⟨m, rfl⟩ : ∃ m', m = m' + 1 := ⟨m - 1, by omega⟩
    unfold readA
    have hc := fun (S : List LV) (K : ByteArray × ByteArray × Bool × Unit → List LV → Option R) => cutS_at k 10 text (by omega) S K
    have u : UInt8.ofNat 10 = 10 := rfl
    have u2 : UInt8.ofNat 32 = 32 := rfl
    rw [u] at hc
    have h1 := cutB_size 10 text
    have h2 := cutB_size 32 (cutB 10 text).1
    have hc2 := fun (S : List LV) (K : ByteArray × ByteArray × Bool × Unit → List LV → Option R) => cutS_at k 32 (cutB 10 text).1 (by omega) S K
    rw [u2] at hc2
    have hw : IntKind.wrap .i64 ((at_ : Int) + 1) = ((at_ + 1 : Nat) : Int) := wrap_succ (by omega)
    have hround : ∀ (J : ActT × (Nat × Nat) × Int × Int × Unit → List LV → Option R) (Jret : ActT × Int × Int × Unit → List LV → Option R), rounds (G.smithyardref5_Read.b0 k J Jret) (m + 1) (text, zT, (id, 0), (last : Int), (at_ : Int), ()) S =
        ifB (!(strEq text (bs []))) (cond ((cutB 10 text).2.2.1 && ((cutB 32 (cutB 10 text).1).2.2.1 && nextOk last (placeS (cutB 32 (cutB 10 text).1).1))) (G.smithyardref5_take.fn k ((id, 0), (cutB 32 (cutB 10 text).1).1, (cutB 32 (cutB 10 text).1).2.1, ()) S fun r S => cond r.1 (rounds (G.smithyardref5_Read.b0 k J Jret) m ((cutB 10 text).2.1, zT, (id, 0), (placeS (cutB 32 (cutB 10 text).1).1 : Int), ((at_ + 1 : Nat) : Int), ()) S) (Jret (zT, ((at_ + 1 : Nat) : Int), 10, ()) S)) (Jret (zT, ((at_ + 1 : Nat) : Int), 10, ()) S)) (J (zT, (id, 0), (last : Int), (at_ : Int), ()) S) := fun J Jret => by
      rw [rounds_succ]
      show G.smithyardref5_Read.b0 k J Jret (rounds (G.smithyardref5_Read.b0 k J Jret) m) (text, zT, (id, 0), (last : Int), (at_ : Int), ()) S = _
      unfold G.smithyardref5_Read.b0
      dsimp only
      rw [hc, hc2, ref_place, hw]
      refine Eq.trans (congrArg (fun z => ifB (!(strEq text (bs []))) z _) (ref_q0 k id last (placeS (cutB 32 (cutB 10 text).1).1) (at_ + 1) (cutB 10 text).2.1 (cutB 10 text).2.2.1 (cutB 32 (cutB 10 text).1).1 (cutB 32 (cutB 10 text).1).2.1 (cutB 32 (cutB 10 text).1).2.2.1 S _ _)) ?_
      rfl
    simp only [hround]
    cases hs : strEq text (bs []) with
    | true =>
      intro J Jret
      rw [Bool.not_true, ifB_false, set_self h]
    | false =>
      rw [cond_false]
      simp only [Bool.not_false, ifB_true]
      cases hb : (cutB 10 text).2.2.1 with
      | false =>
        exact ⟨.obj 42 (cellsR a), fun J Jret => by rw [set_self h]; rfl⟩
      | true =>
        unfold lineOk
        simp only [Bool.true_and]
        cases hq : (cutB 32 (cutB 10 text).1).2.2.1 with
        | false => exact ⟨.obj 42 (cellsR a), fun J Jret => by rw [set_self h]; rfl⟩
        | true =>
          simp only [Bool.true_and]
          cases hnx : nextOk last (placeS (cutB 32 (cutB 10 text).1).1) with
          | false => exact ⟨.obj 42 (cellsR a), fun J Jret => by rw [set_self h]; rfl⟩
          | true =>
            simp only [Bool.true_and, cond_true]
            obtain ⟨v, hv1, hv2⟩ := ref_take (R := R) hk h hl (by omega) (cutB 32 (cutB 10 text).1).1 (cutB 32 (cutB 10 text).1).2.1 (by omega) (next_ne hnx)
            simp only [hv2]
            cases hoa : okA (placeS (cutB 32 (cutB 10 text).1).1) (cutB 32 (cutB 10 text).1).2.1 with
            | false => exact ⟨v, fun J Jret => rfl⟩
            | true =>
              have hv := hv1 hoa
              obtain ⟨g1, g2, g3, g4⟩ := read_step hl ok hz hb (placeS (cutB 32 (cutB 10 text).1).1)
              simp only [cond_true]
              have ih := ref_loop5 hk id n m (S.set id v) (cutB 10 text).2.1 _ _ (at_ + 1) (by rw [has_set h, hv]) (placeS_le (cutB 32 (cutB 10 text).1).1) g1 g2 g3 (by omega) (by omega)
              cases hr : readA n (cutB 10 text).2.1 (putA a (placeS (cutB 32 (cutB 10 text).1).1) (cutB 32 (cutB 10 text).1).2.1) (placeS (cutB 32 (cutB 10 text).1).1) (at_ + 1) with
              | error e =>
                rw [hr] at ih
                obtain ⟨w, hw2⟩ := ih
                exact ⟨w, fun J Jret => by rw [hw2, List.set_set]⟩
              | ok r =>
                rw [hr] at ih
                intro J Jret
                rw [ih, List.set_set]
theorem R_all (a : Act) (K : ByteArray → List LV → List LV → List LV → List LV → Int → Option R) :
    (ifB (Nat.ble (0 + 6) (cellsR a).length) (asStr (((cellsR a).map dupL).getD 0 .any) fun s14 => asSl 1 (((cellsR a).map dupL).getD (0 + 1) .any) fun l15 => asSl 2 (((cellsR a).map dupL).getD ((0 + 1) + 1) .any) fun l16 => asSl 1 (((cellsR a).map dupL).getD (((0 + 1) + 1) + 1) .any) fun l17 => asSl 2 (((cellsR a).map dupL).getD ((((0 + 1) + 1) + 1) + 1) .any) fun l18 => asInt .i64 (((cellsR a).map dupL).getD (((((0 + 1) + 1) + 1) + 1) + 1) .any) fun n19 => K s14 l15 l16 l17 l18 n19) none) =
      K a.tool (a.cmds.map cmdL) (a.vars.map varL) (a.outs.map .str) (a.needs.map varL) a.time := by
  show asSl 1 (dupL (ow 40 1 (a.cmds.map cmdL))) (fun l15 => asSl 2 (dupL (ow 106 2 (a.vars.map varL))) fun l16 => asSl 1 (dupL (ow 9 1 (a.outs.map LV.str))) fun l17 => asSl 2 (dupL (ow 106 2 (a.needs.map varL))) fun l18 => K a.tool l15 l16 l17 l18 a.time) = _
  rw [asSl_ow, asSl_ow, asSl_ow, asSl_ow]
theorem ref_Read0 {k : Nat} (hk : Many k) (s : ByteArray) (S : List LV) : ∃ X, ∀ K : ActT × Int × Int × Unit → List LV → Option R, G.smithyardref5_Read.fn0 k (s, ()) S K = K ((readActS s).1.tup, ((readActS s).2.1 : Int), (readActS s).2.2, ()) (S ++ X) := by
  have hk' := hk
  unfold Many at hk'
  unfold G.smithyardref5_Read.fn0 readActS
  have e1 : decide ((s.size : Int) > (2000000 : Int)) = decide (s.size > 2000000) := gt_nat _ 2000000
  dsimp only
  simp only [e1]
  cases hc : decide (s.size > 2000000) with
  | true => exact ⟨[], fun K => by rw [List.append_nil]; rfl⟩
  | false =>
    have hs : s.size ≤ 2000000 := by have := of_decide_eq_false hc; omega
    unfold newObj
    simp only [ifB_false, cond_false]
    have ih := ref_loop5 (R := R) hk S.length (s.size + 1) k (S ++ [.obj 42 (cellsR .zero)]) s .zero 0 0 (get_last _ _) (by omega) zero_len zero_ok (by omega) (by omega) (by omega)
    have hrd := readA_ok (s.size + 1) s .zero 0 0
    cases hr : readA (s.size + 1) s .zero 0 0 with
    | error e =>
      rw [hr] at ih
      obtain ⟨v, hv⟩ := ih
      refine ⟨[v], fun K => ?_⟩
      refine Eq.trans (hv _ _) ?_
      rw [set_last]; rfl
    | ok r =>
      rw [hr] at ih hrd
      obtain ⟨ok, h6, _, hat⟩ := hrd r zero_len zero_ok (by omega) (by omega) rfl
      obtain ⟨a, last, at_⟩ := r
      dsimp only at ok h6 ih hat
      refine ⟨[.obj 42 (cellsR a)], fun K => ?_⟩
      refine Eq.trans (ih _ _) ?_
      rw [set_last]
      have e6 : ((last : Int) != 6) = !(decide (last = 6)) := by
        show (!((last : Int) == 6)) = _
        congr 1
        rw [Bool.eq_iff_iff, beq_iff_eq, decide_eq_true_iff]; omega
      have hw : IntKind.wrap .i64 ((at_ : Int) + 1) = ((at_ + 1 : Nat) : Int) := wrap_succ (by omega)
      simp only [e6, hw]
      unfold readEnd
      dsimp only
      cases decide (last = 6) with
      | false => rfl
      | true =>
        simp only [Bool.not_true, ifB_false, at_of (get_last _ _), R_all, cond_true]
        have ha := fun (S : List LV) (K : Int × Unit → List LV → Option R) => ref_CheckAction hk a ok S K
        unfold Act.tup at ha
        simp only [ha, ne0, at_of (get_last _ _), R_all]
        cases actS a == 0 <;> rfl
theorem ref_Read {k : Nat} (hk : Many k) (s : ByteArray) (S : List LV) (K : ActT × Int × Int × Unit → List LV → Option R) : G.smithyardref5_Read.fn k (s, ()) S K = K ((readActS s).1.tup, ((readActS s).2.1 : Int), (readActS s).2.2, ()) S := by
  obtain ⟨X, h⟩ := ref_Read0 (R := LV × List LV) hk s S
  exact popK_at (h _) (noId_act _)
end
end Go.Lm
