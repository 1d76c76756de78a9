/- The text of an action and what is read of it: each is the other. No program. -/
import Derived.Test.YtnapepffpbbkoaaGreatDoorLmT
import Derived.Test.YtnapepffpbbkoaaGreatDoorLmI2
import Derived.Test.YtnapepffpbbkoaaGreatDoorLmO5
set_option maxRecDepth 100000
namespace Go.Lm
def flatL {α : Type} (f : α → ByteArray) (l : List α) : Bs := (l.map fun x => toL (f x)).flatten
theorem flatL_snoc {α : Type} (f : α → ByteArray) (l : List α) (x : α) : flatL f (l ++ [x]) = flatL f l ++ toL (f x) := by
  unfold flatL
  simp
theorem catN_flat {α : Type} (f : α → ByteArray) (z : α) (l : List α) (acc : ByteArray) : ∀ i, i ≤ l.length → toL (catN f z l acc i) = toL acc ++ flatL f (l.take i)
  | 0, _ => by unfold catN flatL; simp
  | i + 1, hi => by
    have ih := catN_flat f z l acc i (by omega)
    unfold catN
    rw [toL_app, ih, List.take_succ_eq_append_getElem (by omega), flatL_snoc, List.getD_eq_getElem?_getD, List.getElem?_eq_getElem (by omega), List.append_assoc]
    rfl
theorem catN_all {α : Type} (f : α → ByteArray) (z : α) (l : List α) (acc : ByteArray) : toL (catN f z l acc l.length) = toL acc ++ flatL f l := by
  rw [catN_flat f z l acc _ (Nat.le_refl _), List.take_of_length_le (Nat.le_refl _)]
/-- What is written of an action up to a place. -/
def uptoL (a : Act) (last : Nat) : Bs :=
  ((((cond (decide (last = 0)) [] (toL (toolLn a.tool)) ++ flatL doS a.cmds) ++ flatL varLn a.vars) ++ flatL outLn a.outs) ++ flatL needLn a.needs) ++ cond (decide (last = 6)) (toL (timeLn a.time)) []
theorem textA_upto (a : Act) : toL (textA a) = uptoL a 6 := by
  unfold textA textA5 textA4 textA3 textA2 textA1 uptoL
  rw [toL_app, catN_all, catN_all, catN_all, catN_all]
  rfl
structure Inv5 (a : Act) (last : Nat) : Prop where
  cmds : last < 2 → a.cmds = []
  vars : last < 3 → a.vars = []
  outs : last < 4 → a.outs = []
  needs : last < 5 → a.needs = []
def wordP (p : Nat) : ByteArray := match p with
  | 1 => bs [116, 111, 111, 108]
  | 2 => bs [100, 111]
  | 3 => bs [118, 97, 114]
  | 4 => bs [111, 117, 116]
  | 5 => bs [110, 101, 101, 100]
  | _ => bs [116, 105, 109, 101]
theorem place_word {w : ByteArray} (h : placeS w ≠ 0) : w = wordP (placeS w) := by
  unfold placeS at h ⊢
  cases h1 : strEq w (bs [116, 111, 111, 108]) with
  | true => exact (strEq_iff _ _).1 h1
  | false =>
  cases h2 : strEq w (bs [100, 111]) with
  | true => exact (strEq_iff _ _).1 h2
  | false =>
  cases h3 : strEq w (bs [118, 97, 114]) with
  | true => exact (strEq_iff _ _).1 h3
  | false =>
  cases h4 : strEq w (bs [111, 117, 116]) with
  | true => exact (strEq_iff _ _).1 h4
  | false =>
  cases h5 : strEq w (bs [110, 101, 101, 100]) with
  | true => exact (strEq_iff _ _).1 h5
  | false =>
  cases h6 : strEq w (bs [116, 105, 109, 101]) with
  | true => exact (strEq_iff _ _).1 h6
  | false => rw [h1, h2, h3, h4, h5, h6] at h; exact absurd rfl h
def itemP (p : Nat) (rest : ByteArray) : ByteArray := match p with
  | 1 => toolLn rest
  | 2 => doS (splitW 32 rest)
  | 3 => varLn (varOf rest)
  | 4 => outLn rest
  | 5 => needLn (varOf rest)
  | _ => timeLn (numV rest)
theorem toL_nl : toL (bs [10]) = [10] := rfl
theorem ln2_L (w s : ByteArray) : toL (lnS [w, s]) = toL w ++ 32 :: (toL s ++ [10]) := by
  unfold lnS
  rw [toL_app, joinS_two, toL_app, toL_app, toL_nl]
  show ((toL w ++ [32]) ++ toL s) ++ [10] = _
  simp
theorem ln3_L (w s t : ByteArray) : toL (lnS [w, s, t]) = toL w ++ 32 :: ((toL s ++ 32 :: toL t) ++ [10]) := by
  unfold lnS
  rw [toL_app, joinS_three, toL_app, toL_app, toL_app, toL_app, toL_nl]
  show ((((toL w ++ [32]) ++ toL s) ++ [32]) ++ toL t) ++ [10] = _
  simp
theorem cutB_some {c : UInt8} {s : ByteArray} (h : (cutB c s).2.2.1 = true) : toL s = toL (cutB c s).1 ++ c :: toL (cutB c s).2.1 := by
  unfold cutB at h ⊢
  cases hc : cutL c (toL s) with
  | none => rw [hc] at h; cases h
  | some ar =>
    obtain ⟨x, r⟩ := ar
    dsimp only
    rw [toL_ofL, toL_ofL]
    exact (cutL_some hc).1
theorem join_splitW (s : ByteArray) : joinS (splitW 32 s) = s := by
  apply toL_inj
  unfold joinS splitW
  rw [toL_ofL, List.map_map]
  have : (toL ∘ ofL) = (id : Bs → Bs) := by funext x; exact toL_ofL x
  rw [this, List.map_id, join_split 32 _ (toL s) (Nat.le_refl _)]
theorem varOf_L {s : ByteArray} (h : varOk s = true) : toL (varOf s).1 ++ 32 :: toL (varOf s).2 = toL s := by
  unfold varOk at h
  rw [Bool.and_eq_true] at h
  exact (cutB_some h.1).symm
theorem item_L {p : Nat} (h1 : 1 ≤ p) (h6 : p ≤ 6) {rest : ByteArray} (h : okA p rest = true) : toL (itemP p rest) = toL (wordP p) ++ 32 :: (toL rest ++ [10]) := by
  rcases (show p = 1 ∨ p = 2 ∨ p = 3 ∨ p = 4 ∨ p = 5 ∨ p = 6 by omega) with rfl | rfl | rfl | rfl | rfl | rfl
  · exact ln2_L _ _
  · show toL (lnS [bs [100, 111], joinS (splitW 32 rest)]) = _
    rw [ln2_L, join_splitW]; rfl
  · show toL (lnS [bs [118, 97, 114], (varOf rest).1, (varOf rest).2]) = _
    rw [ln3_L, varOf_L h]; rfl
  · exact ln2_L _ _
  · show toL (lnS [bs [110, 101, 101, 100], (varOf rest).1, (varOf rest).2]) = _
    rw [ln3_L, varOf_L h]; rfl
  · show toL (lnS [bs [116, 105, 109, 101], itoaS (numV rest)]) = _
    rw [ln2_L, num_itoa (show isNumS rest 9 = true from h)]; rfl
theorem next_facts {last p : Nat} (h : nextOk last p = true) : p ≠ 0 ∧ last ≤ p ∧ (p = last → 2 ≤ p ∧ p ≤ 5) ∧ (last = 0 → p = 1) := by
  unfold nextOk at h
  simp only [Bool.and_eq_true, Bool.not_eq_true', decide_eq_false_iff_not, Bool.and_eq_false_iff, Bool.not_eq_false', decide_eq_true_eq] at h
  omega
theorem upto_put {a : Act} {last p : Nat} (i : Inv5 a last) (h6 : p ≤ 6) (hn : nextOk last p = true) (rest : ByteArray) : uptoL (putA a p rest) p = uptoL a last ++ toL (itemP p rest) ∧ Inv5 (putA a p rest) p := by
  obtain ⟨h0, h1, h2, h3⟩ := next_facts hn
  obtain ⟨tool, cmds, vars, outs, needs, time⟩ := a
  obtain ⟨i1, i2, i3, i4⟩ := i
  dsimp only at i1 i2 i3 i4
  have e0 : flatL doS [] = [] := rfl
  have e1 : flatL varLn [] = [] := rfl
  have e2 : flatL outLn [] = [] := rfl
  have e3 : flatL needLn [] = [] := rfl
  rcases (show p = 1 ∨ p = 2 ∨ p = 3 ∨ p = 4 ∨ p = 5 ∨ p = 6 by omega) with rfl | rfl | rfl | rfl | rfl | rfl
  · have hl : last = 0 := by omega
    subst hl
    have j1 := i1 (by omega); have j2 := i2 (by omega); have j3 := i3 (by omega); have j4 := i4 (by omega)
    subst j1; subst j2; subst j3; subst j4
    refine ⟨?_, ⟨fun _ => rfl, fun _ => rfl, fun _ => rfl, fun _ => rfl⟩⟩
    simp [uptoL, putA, itemP, e0, e1, e2, e3]
  · have hl : last ≠ 0 := by omega
    have hl6 : last ≠ 6 := by omega
    have j2 := i2 (by omega); have j3 := i3 (by omega); have j4 := i4 (by omega)
    subst j2; subst j3; subst j4
    refine ⟨?_, ⟨fun h => by omega, fun _ => rfl, fun _ => rfl, fun _ => rfl⟩⟩
    simp [uptoL, putA, itemP, e1, e2, e3, hl, hl6, flatL_snoc]
  · have hl : last ≠ 0 := by omega
    have hl6 : last ≠ 6 := by omega
    have j3 := i3 (by omega); have j4 := i4 (by omega)
    subst j3; subst j4
    refine ⟨?_, ⟨fun h => by omega, fun h => by omega, fun _ => rfl, fun _ => rfl⟩⟩
    simp [uptoL, putA, itemP, e2, e3, hl, hl6, flatL_snoc]
  · have hl : last ≠ 0 := by omega
    have hl6 : last ≠ 6 := by omega
    have j4 := i4 (by omega)
    subst j4
    refine ⟨?_, ⟨fun h => by omega, fun h => by omega, fun h => by omega, fun _ => rfl⟩⟩
    simp [uptoL, putA, itemP, e3, hl, hl6, flatL_snoc]
  · have hl : last ≠ 0 := by omega
    have hl6 : last ≠ 6 := by omega
    refine ⟨?_, ⟨fun h => by omega, fun h => by omega, fun h => by omega, fun h => by omega⟩⟩
    simp [uptoL, putA, itemP, hl, hl6, flatL_snoc]
  · have hl : last ≠ 0 := by omega
    have hl6 : last ≠ 6 := by omega
    refine ⟨?_, ⟨fun h => by omega, fun h => by omega, fun h => by omega, fun h => by omega⟩⟩
    simp [uptoL, putA, itemP, hl, hl6]
theorem readA_text : ∀ (n : Nat) (text : ByteArray) (a : Act) (last at_ : Nat) (r : Act × Nat × Nat), Inv5 a last → readA n text a last at_ = .ok r → uptoL a last ++ toL text = uptoL r.1 r.2.1
  | 0, _, _, _, _, _, _, h => by cases h
  | n + 1, text, a, last, at_, r, i, h => by
    unfold readA at h
    cases he : strEq text (bs []) with
    | true =>
      rw [he] at h
      cases h
      rw [(strEq_iff _ _).1 he]
      exact List.append_nil _
    | false =>
      rw [he, cond_false] at h
      cases hb : ((cutB 10 text).2.2.1 && lineOk last (cutB 10 text).1) with
      | false => rw [hb] at h; cases h
      | true =>
        rw [hb, cond_true] at h
        rw [Bool.and_eq_true] at hb
        have h1 := cutB_some hb.1
        have h2 := hb.2
        unfold lineOk at h2
        rw [Bool.and_eq_true, Bool.and_eq_true] at h2
        obtain ⟨h3, h4, h5⟩ := h2
        have h6 := cutB_some h3
        have hp := placeS_le (cutB 32 (cutB 10 text).1).1
        have hp0 := (next_facts h4).1
        have hw := place_word hp0
        obtain ⟨h7, h8⟩ := upto_put i hp h4 (cutB 32 (cutB 10 text).1).2.1
        have ih := readA_text n _ _ _ _ r h8 h
        rw [← ih, h7, item_L (by omega) hp h5, ← hw, h1, h6]
        simp
theorem zero_inv : Inv5 .zero 0 := ⟨fun _ => rfl, fun _ => rfl, fun _ => rfl, fun _ => rfl⟩
/-- What is read of a text is written as that text. -/
theorem read_write {s : ByteArray} (h : (readActS s).2.2 = 0) : actS (readActS s).1 = 0 ∧ textA (readActS s).1 = s := by
  unfold readActS at h ⊢
  cases hc : decide (s.size > 2000000) with
  | true => rw [hc] at h; cases h
  | false =>
    rw [hc, cond_false] at h
    rw [cond_false]
    cases hr : readA (s.size + 1) s .zero 0 0 with
    | error e => rw [hr] at h; cases h
    | ok r =>
      have ht := readA_text _ _ _ _ _ r zero_inv hr
      rw [hr] at h
      obtain ⟨a, last, at_⟩ := r
      unfold readEnd at h ⊢
      dsimp only at h ⊢ ht
      cases h6 : decide (last = 6) with
      | false => rw [h6] at h; cases h
      | true =>
        rw [h6, cond_true] at h
        rw [cond_true]
        have := of_decide_eq_true h6
        subst this
        cases ha : actS a == 0 with
        | false => rw [ha] at h; exact absurd h (fun e => by rw [show actS a = 0 from e] at ha; cases ha)
        | true =>
          rw [cond_true]
          refine ⟨eq_of_beq ha, toL_inj ?_⟩
          rw [textA_upto, ← ht]
          rfl
theorem read_zero {s : ByteArray} (h : (readActS s).2.2 ≠ 0) : (readActS s).1 = .zero := by
  unfold readActS at h ⊢
  cases hc : decide (s.size > 2000000) with
  | true => rfl
  | false =>
    rw [hc, cond_false] at h
    rw [cond_false]
    cases hr : readA (s.size + 1) s .zero 0 0 with
    | error e => rfl
    | ok r =>
      rw [hr] at h
      obtain ⟨a, last, at_⟩ := r
      unfold readEnd at h ⊢
      dsimp only at h ⊢
      cases h6 : decide (last = 6) with
      | false => rfl
      | true =>
        rw [h6, cond_true] at h
        rw [cond_true]
        cases ha : actS a == 0 with
        | false => rfl
        | true => rw [ha] at h; exact absurd rfl h
end Go.Lm
