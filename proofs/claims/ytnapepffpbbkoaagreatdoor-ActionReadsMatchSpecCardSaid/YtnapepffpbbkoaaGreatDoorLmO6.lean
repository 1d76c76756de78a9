/- Reading an action: the plain law, and the program's Read. -/
import Derived.Test.YtnapepffpbbkoaaGreatDoorLmO5
set_option maxRecDepth 100000
namespace Go.Lm
def Act.zero : Act := ⟨bs [], [], [], [], [], 0⟩
/-- What stands behind lines: the action, the place of the last one, how many lines. -/
def readA : Nat → ByteArray → Act → Nat → Nat → Except Nat (Act × Nat × Nat)
  | 0, _, _, _, at_ => .error at_
  | n + 1, text, a, last, at_ => cond (strEq text (bs [])) (.ok (a, last, at_)) (cond ((cutB 10 text).2.2.1 && lineOk last (cutB 10 text).1)
      (readA n (cutB 10 text).2.1 (putA a (placeS (cutB 32 (cutB 10 text).1).1) (cutB 32 (cutB 10 text).1).2.1) (placeS (cutB 32 (cutB 10 text).1).1) (at_ + 1)) (.error (at_ + 1)))
def readEnd (r : Except Nat (Act × Nat × Nat)) : Act × Nat × Int := match r with
  | .error e => (.zero, e, 10)
  | .ok (a, last, at_) => cond (decide (last = 6)) (cond (actS a == 0) (a, 0, 0) (.zero, 0, actS a)) (.zero, at_ + 1, 10)
def readActS (s : ByteArray) : Act × Nat × Int := cond (decide (s.size > 2000000)) (.zero, 0, 2) (readEnd (readA (s.size + 1) s .zero 0 0))
theorem splitW_size (c : UInt8) (s : ByteArray) : ∀ w ∈ splitW c s, w.size ≤ s.size := by
  intro w hw
  unfold splitW at hw
  rw [List.mem_map] at hw
  obtain ⟨l, hl, rfl⟩ := hw
  have h1 := join_len c (splitL c (toL s)) l hl
  rw [join_split c (toL s).length (toL s) (Nat.le_refl _), toL_len] at h1
  rw [ofL_size]; exact h1
/-- A step of the lines keeps what is known of them. -/
theorem read_step {text : ByteArray} {a : Act} {at_ : Nat} (hl : ActLen a at_) (ok : ActOk a) (hz : text.size + at_ ≤ 2000000) (hc : (cutB 10 text).2.2.1 = true) (p : Nat) :
    ActLen (putA a p (cutB 32 (cutB 10 text).1).2.1) (at_ + 1) ∧ ActOk (putA a p (cutB 32 (cutB 10 text).1).2.1) ∧ (cutB 10 text).2.1.size + (at_ + 1) ≤ 2000000 ∧ (cutB 10 text).2.1.size < text.size := by
  have h1 := cutB_size 10 text
  have h2 := cutB_size 32 (cutB 10 text).1
  have h3 := h1.2.2 hc
  refine ⟨hl.put _ _, ok.put p (by omega) (fun w hw => ?_) ?_, by omega, h3⟩
  · have := splitW_size 32 _ w hw
    omega
  · have h4 := (cutB_size 32 (cutB 32 (cutB 10 text).1).2.1).1
    show (cutB 32 (cutB 32 (cutB 10 text).1).2.1).1.size ≤ _
    omega
theorem readA_ok : ∀ (n : Nat) (text : ByteArray) (a : Act) (last at_ : Nat) (r : Act × Nat × Nat), ActLen a at_ → ActOk a → text.size + at_ ≤ 2000000 → last ≤ 6 → readA n text a last at_ = .ok r → ActOk r.1 ∧ r.2.1 ≤ 6 ∧ ActLen r.1 2000000 ∧ r.2.2 ≤ 2000000
  | 0, _, _, _, _, _, _, _, _, _, h => by cases h
  | n + 1, text, a, last, at_, r, hl, ok, hz, h6, h => by
    unfold readA at h
    cases he : strEq text (bs []) with
    | true =>
      rw [he] at h
      cases h
      exact ⟨ok, h6, ⟨by have := hl.cmds; dsimp only; omega, by have := hl.vars; dsimp only; omega, by have := hl.outs; dsimp only; omega, by have := hl.needs; dsimp only; omega⟩, by dsimp only; omega⟩
    | false =>
      rw [he, cond_false] at h
      cases hc : (cutB 10 text).2.2.1 with
      | false => rw [hc] at h; cases h
      | true =>
        rw [hc, Bool.true_and] at h
        cases hq : lineOk last (cutB 10 text).1 with
        | false => rw [hq] at h; cases h
        | true =>
          rw [hq, cond_true] at h
          obtain ⟨h1, h2, h3, _⟩ := read_step hl ok hz hc (placeS (cutB 32 (cutB 10 text).1).1)
          exact readA_ok n _ _ _ _ r h1 h2 h3 (placeS_le _) h
section
variable {R : Type}
def zT : ActT := (bs [], [], [], [], [], 0, ())
theorem zero_tup : Act.zero.tup = zT := rfl
theorem prog_loop5 {k : Nat} (hk : Many k) (id : Nat) : ∀ (n m : Nat) (S : List LV) (text : ByteArray) (a : Act) (last at_ : Nat), S.getD id .any = .obj 98 (cellsP a (atI last)) → last ≤ 6 → HasErr S H.errG → HasErr S H.rngG → ActLen a at_ → ActOk a → text.size + at_ ≤ 2000000 → text.size < n → n ≤ m →
    match readA n text a last at_ with
    | .error e => ∃ v, ∀ (J : ActT × (Nat × Nat) × Int × Unit → List LV → Option R) (Jret : ActT × Int × Int × Unit → List LV → Option R), rounds (G.action_Read.b0 k J Jret) m (text, zT, (id, 0), (at_ : Int) + 1, ()) S = Jret (zT, (e : Int), 10, ()) (S.set id v)
    | .ok r => ∀ (J : ActT × (Nat × Nat) × Int × Unit → List LV → Option R) (Jret : ActT × Int × Int × Unit → List LV → Option R), rounds (G.action_Read.b0 k J Jret) m (text, zT, (id, 0), (at_ : Int) + 1, ()) S = J (zT, (id, 0), (r.2.2 : Int) + 1, ()) (S.set id (.obj 98 (cellsP r.1 (atI r.2.1))))
  | 0, _, _, _, _, _, _, _, _, _, _, _, _, _, h, _ => by omega
  | n + 1, m, S, text, a, last, at_, h, h6, he, hg, hl, ok, hz, hn, hm => by
    obtain ⟨m, rfl⟩ : ∃ m', m = m' + 1 := ⟨m - 1, by omega⟩
    unfold readA
    have hc := fun (S : List LV) (K : ByteArray × ByteArray × Bool × Unit → List LV → Option R) => cutS_at k 10 text (by omega) S K
    have u : UInt8.ofNat 10 = 10 := rfl
    rw [u] at hc
    have hround : ∀ (J : ActT × (Nat × Nat) × Int × Unit → List LV → Option R) (Jret : ActT × Int × Int × Unit → List LV → Option R), rounds (G.action_Read.b0 k J Jret) (m + 1) (text, zT, (id, 0), (at_ : Int) + 1, ()) S =
        ifB (!(strEq text (bs []))) (ifB (!(cutB 10 text).2.2.1) (Jret (zT, (at_ : Int) + 1, 10, ()) S) (G.action_actionReader_line.fn k ((id, 0), (cutB 10 text).1, ()) S fun r6 S => ifB (!r6.1) (Jret (zT, (at_ : Int) + 1, 10, ()) S) (rounds (G.action_Read.b0 k J Jret) m ((cutB 10 text).2.1, zT, (id, 0), IntKind.wrap .i64 ((at_ : Int) + 1 + 1), ()) S))) (J (zT, (id, 0), (at_ : Int) + 1, ()) S) := fun J Jret => by
      rw [rounds_succ]
      show G.action_Read.b0 k J Jret (rounds (G.action_Read.b0 k J Jret) m) (text, zT, (id, 0), (at_ : Int) + 1, ()) S = _
      unfold G.action_Read.b0 G.action_Read.q0 G.action_Read.q1
      dsimp only
      rw [hc]
      rfl
    simp only [hround]
    cases hs : strEq text (bs []) with
    | true =>
      intro J Jret
      rw [Bool.not_true, ifB_false, set_self h]
    | false =>
      rw [cond_false]
      simp only [Bool.not_false, ifB_true]
      cases hb : (cutB 10 text).2.2.1 with
      | false =>
        exact ⟨.obj 98 (cellsP a (atI last)), fun J Jret => by rw [Bool.not_false, ifB_true, set_self h]; rfl⟩
      | true =>
        simp only [Bool.not_true, ifB_false, Bool.true_and]
        have h1 := cutB_size 10 text
        obtain ⟨v, hv1, hv2⟩ := prog_line5 (R := R) hk h h6 he hg hl (by omega) (cutB 10 text).1 (by omega)
        simp only [hv2]
        cases hq : lineOk last (cutB 10 text).1 with
        | false =>
          exact ⟨v, fun J Jret => rfl⟩
        | true =>
          have hv := hv1 hq
          obtain ⟨g1, g2, g3, g4⟩ := read_step hl ok hz hb (placeS (cutB 32 (cutB 10 text).1).1)
          have hw : IntKind.wrap .i64 ((at_ : Int) + 1 + 1) = ((at_ + 1 : Nat) : Int) + 1 := by rw [wrap_id (by omega) (by omega)]; omega
          simp only [Bool.not_true, ifB_false, cond_true, hw]
          have ih := prog_loop5 hk id n m (S.set id v) (cutB 10 text).2.1 _ _ (at_ + 1) (by rw [has_set h, hv]) (placeS_le _) (he.put h _) (hg.put h _) g1 g2 g3 (by omega) (by omega)
          cases hr : readA n (cutB 10 text).2.1 (putA a (placeS (cutB 32 (cutB 10 text).1).1) (cutB 32 (cutB 10 text).1).2.1) (placeS (cutB 32 (cutB 10 text).1).1) (at_ + 1) with
          | error e =>
            rw [hr] at ih
            obtain ⟨w, hw2⟩ := ih
            exact ⟨w, fun J Jret => by rw [hw2, List.set_set]⟩
          | ok r =>
            rw [hr] at ih
            intro J Jret
            rw [ih, List.set_set]
theorem P_all (a : Act) (t : Int) (K : ByteArray → List LV → List LV → List LV → List LV → Int → Option R) :
    (ifB (Nat.ble ((0 + 0) + 6) (cellsP a t).length) (asStr (((cellsP a t).map dupL).getD (0 + 0) .any) fun s14 => asSl 1 (((cellsP a t).map dupL).getD ((0 + 0) + 1) .any) fun l15 => asSl 2 (((cellsP a t).map dupL).getD (((0 + 0) + 1) + 1) .any) fun l16 => asSl 1 (((cellsP a t).map dupL).getD ((((0 + 0) + 1) + 1) + 1) .any) fun l17 => asSl 2 (((cellsP a t).map dupL).getD (((((0 + 0) + 1) + 1) + 1) + 1) .any) fun l18 => asInt .i64 (((cellsP a t).map dupL).getD ((((((0 + 0) + 1) + 1) + 1) + 1) + 1) .any) fun n19 => K s14 l15 l16 l17 l18 n19) none) =
      K a.tool (a.cmds.map cmdL) (a.vars.map varL) (a.outs.map .str) (a.needs.map varL) a.time := by
  show asSl 1 (dupL (ow 40 1 (a.cmds.map cmdL))) (fun l15 => asSl 2 (dupL (ow 106 2 (a.vars.map varL))) fun l16 => asSl 1 (dupL (ow 9 1 (a.outs.map LV.str))) fun l17 => asSl 2 (dupL (ow 106 2 (a.needs.map varL))) fun l18 => K a.tool l15 l16 l17 l18 a.time) = _
  rw [asSl_ow, asSl_ow, asSl_ow, asSl_ow]
theorem zero_ok : ActOk .zero := ⟨by decide, (fun _ h => by cases h), (fun _ h => by cases h), (fun _ h => by cases h), (fun _ h => by cases h)⟩
theorem zero_len : ActLen .zero 0 := ⟨Nat.le_refl _, Nat.le_refl _, Nat.le_refl _, Nat.le_refl _⟩
theorem atI_six {last : Nat} (h : last ≤ 6) : (atI last != 6) = !(decide (last = 6)) := by
  have : ∀ l : Fin 7, (atI l.1 != 6) = !(decide (l.1 = 6)) := by decide
  exact this ⟨last, by omega⟩
theorem prog_Read0 {k : Nat} (hk : Many k) (s : ByteArray) (S : List LV) (he : HasErr S H.errG) (hg : HasErr S H.rngG) : ∃ X, ∀ K : ActT × Int × Int × Unit → List LV → Option R, G.action_Read.fn0 k (s, ()) S K = K ((readActS s).1.tup, ((readActS s).2.1 : Int), (readActS s).2.2, ()) (S ++ X) := by
  have hk' := hk
  unfold Many at hk'
  unfold G.action_Read.fn0 readActS
  have e1 : decide ((s.size : Int) > (2000000 : Int)) = decide (s.size > 2000000) := gt_nat _ 2000000
  dsimp only
  simp only [e1]
  cases hc : decide (s.size > 2000000) with
  | true => exact ⟨[], fun K => by rw [List.append_nil]; rfl⟩
  | false =>
    have hs : s.size ≤ 2000000 := by have := of_decide_eq_false hc; omega
    unfold newObj
    simp only [ifB_false, cond_false]
    have ih := prog_loop5 (R := R) hk S.length (s.size + 1) k (S ++ [.obj 98 (cellsP .zero (atI 0))]) s .zero 0 0 (get_last _ _) (by omega) (he.app _) (hg.app _) zero_len zero_ok (by omega) (by omega) (by omega)
    have hrd := readA_ok (s.size + 1) s .zero 0 0
    cases hr : readA (s.size + 1) s .zero 0 0 with
    | error e =>
      rw [hr] at ih
      obtain ⟨v, hv⟩ := ih
      refine ⟨[v], fun K => ?_⟩
      refine Eq.trans (hv _ _) ?_
      rw [set_last]; rfl
    | ok r =>
      rw [hr] at ih hrd
      obtain ⟨ok, h6, _⟩ := hrd r zero_len zero_ok (by omega) (by omega) rfl
      obtain ⟨a, last, at_⟩ := r
      dsimp only at ok h6 ih
      refine ⟨[.obj 98 (cellsP a (atI last))], fun K => ?_⟩
      refine Eq.trans (ih _ _) ?_
      rw [set_last]
      simp only [at_of (get_last _ _), P_ld, atI_six h6]
      unfold readEnd
      dsimp only
      cases decide (last = 6) with
      | false => rfl
      | true =>
        simp only [Bool.not_true, ifB_false, P_all, cond_true]
        have ha := fun (S : List LV) (K : Int × Unit → List LV → Option R) => prog_CheckAction hk a ok S K
        unfold Act.tup at ha
        simp only [ha, ne0, at_of (get_last _ _), P_all]
        cases actS a == 0 <;> rfl
theorem cmds_noId (l : List (List ByteArray)) : (l.map cmdL).all (noId 3) = true := by
  rw [List.all_map, List.all_eq_true]
  intro c _
  show ((c.map LV.str).all (noId 2)) = true
  rw [List.all_map, List.all_eq_true]
  intro w _; rfl
theorem vars_noId (l : List AVar) : (l.map varL).all (noId 3) = true := by
  rw [List.all_map, List.all_eq_true]
  intro x _; rfl
theorem strs_noId (l : List ByteArray) : (l.map LV.str).all (noId 3) = true := by
  rw [List.all_map, List.all_eq_true]
  intro x _; rfl
theorem noId_act (x : Act × Nat × Int) : noId 6 (resE G.action_Read.rs (x.1.tup, (x.2.1 : Int), x.2.2, ())) = true := by
  obtain ⟨a, n, f⟩ := x
  show ([LV.agg [.str a.tool, .sl 1 (a.cmds.map cmdL), .sl 2 (a.vars.map varL), .sl 1 (a.outs.map .str), .sl 2 (a.needs.map varL), .int .i64 a.time], .int .i64 n, .int .i64 f].all (noId 5)) = true
  have h1 := cmds_noId a.cmds
  have h2 := vars_noId a.vars
  have h3 := strs_noId a.outs
  have h4 := vars_noId a.needs
  simp only [List.all_cons, List.all_nil, Bool.and_true, Bool.and_eq_true]
  refine ⟨?_, rfl, rfl⟩
  show ([LV.str a.tool, .sl 1 (a.cmds.map cmdL), .sl 2 (a.vars.map varL), .sl 1 (a.outs.map .str), .sl 2 (a.needs.map varL), .int .i64 a.time].all (noId 4)) = true
  simp only [List.all_cons, List.all_nil, Bool.and_true, Bool.and_eq_true]
  exact ⟨rfl, h1, h2, h3, h4, rfl⟩
theorem prog_Read {k : Nat} (hk : Many k) (s : ByteArray) (S : List LV) (he : HasErr S H.errG) (hg : HasErr S H.rngG) (K : ActT × Int × Int × Unit → List LV → Option R) : G.action_Read.fn k (s, ()) S K = K ((readActS s).1.tup, ((readActS s).2.1 : Int), (readActS s).2.2, ()) S := by
  obtain ⟨X, h⟩ := prog_Read0 (R := LV × List LV) hk s S he hg
  exact popK_at (h _) (noId_act _)
end
end Go.Lm
