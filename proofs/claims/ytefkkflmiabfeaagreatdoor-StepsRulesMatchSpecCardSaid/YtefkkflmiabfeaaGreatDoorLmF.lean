/- The interpreter's answer is the machine's: pieces of code, loops, whole functions. -/
import Derived.Test.YtefkkflmiabfeaaGreatDoorLmFd
set_option linter.unusedVariables false
set_option linter.unusedSimpArgs false
namespace Go.Lm
section
variable {R : Type} {P : Program} {T : Nat → Option TI} {C : Nat → Hd R}
/-- A proved piece keeps its promise. -/
def PieceOk (P : Program) {R : Type} (code : Code) (h : Q → (LX → Q → Option R) → Option R) : Prop :=
  ∀ (q : Q) (K : LX → Q → Option R) (r : R), h q K = some r → ∃ x q', K x q' = some r ∧ CodeOk P code q x q'

theorem lloop_ok {code : Code} {B : Q → (LX → Q → Option R) → Option R} {m : Mk} (hB : PieceOk P code B) (r : R) (K : LX → Q → Option R) :
    ∀ (n : Nat) (q : Q), lloop B m n q K = some r → ∃ x q', K x q' = some r ∧
      ∀ (fr : Fr) (a : Act) (c : Cx), Rel fr q a c → ∀ Qp : Exit → Act → World → Prop, (∀ a' c', Rel fr q' a' c' → Qp x.toExit a' c'.w) → Code.rounds P code Qp n a c.w
  | 0, q, h => by simp [lloop] at h
  | n + 1, q, h => by
    simp only [lloop] at h
    obtain ⟨x, q1, h, hc⟩ := hB q _ r h
    cases x with
    | nrm =>
      obtain ⟨x, q', h, hrest⟩ := lloop_ok hB r K n _ h
      refine ⟨x, q', h, fun fr a c hr Qp hQ => ?_⟩
      rw [rounds_succ]
      exact hc fr a c hr _ fun a' c' hr => hrest fr a' c' (hr.mask m) Qp hQ
    | ext id =>
      refine ⟨.ext id, q1, h, fun fr a c hr Qp hQ => ?_⟩
      rw [rounds_succ]
      exact hc fr a c hr _ fun a' c' hr => hQ a' c' hr
    | ret =>
      refine ⟨.ret, q1, h, fun fr a c hr Qp hQ => ?_⟩
      rw [rounds_succ]
      exact hc fr a c hr _ fun a' c' hr => hQ a' c' hr

/-- What an annotation owes. -/
def AnOk (P : Program) {R : Type} : An R → Code → Prop
  | .auto, _ => True
  | .mask _ a, c => AnOk P a c
  | .frz _ a, c => AnOk P a c
  | .asp _ a, c => AnOk P a c
  | .frr _ _ a, c => AnOk P a c
  | .drawn tk is, .region _ ops d => (d && drawChk P (flagA tk ops) false false is) = true
  | .hide _ tk is, .region _ ops d => (d && drawChk P (flagA tk ops) false true is) = true
  | .quiet tk is, .region _ ops d => (d && drawChk P (flagA tk ops) true false is) = true
  | .piece h, c => PieceOk P c h
  | .seq a b, .seq c d => AnOk P a c ∧ AnOk P b d
  | .cond a b, .cond _ c d => AnOk P a c ∧ AnOk P b d
  | .block a, .block _ c => AnOk P a c
  | _, _ => True

theorem lexec_ok (hT : ∀ t ti, T t = some ti → tiOf P t = some ti) (hC : ∀ f, HSound P f (C f)) :
    ∀ (an : An R) (code : Code), AnOk P an code → PieceOk P code (lexec T C an code)
  | .piece h, code, ha => ha
  | .mask m an, code, ha => fun q K r h => by
    obtain ⟨x, q', h, hx⟩ := lexec_ok hT hC an code ha (q.mask m) K r h
    exact ⟨x, q', h, fun fr a c hr Qp hQ => hx fr a c (hr.mask m) Qp hQ⟩
  | .frz t an, code, ha => fun q K r h => by
    simp only [lexec] at h
    obtain ⟨q1, h, hf⟩ := frzQ_some h
    obtain ⟨x, q', h, hx⟩ := lexec_ok hT hC an code ha q1 K r h
    exact ⟨x, q', h, fun fr a c hr Qp hQ => by
      obtain ⟨c', hw, hr'⟩ := hf hr
      rw [← hw]
      exact hx fr a c' hr' Qp hQ⟩
  | .frr t z an, code, ha => fun q K r h => by
    simp only [lexec, setK_eq] at h
    obtain ⟨q1, h, hf⟩ := frzO_some (t := t) (z := z) (q := q) (K := fun q => lexec T C an code q K) h
    obtain ⟨x, q', h, hx⟩ := lexec_ok hT hC an code ha q1 K r h
    exact ⟨x, q', h, fun fr a c hr Qp hQ => by
      obtain ⟨c', hw, hr'⟩ := hf hr
      rw [← hw]
      exact hx fr a c' hr' Qp hQ⟩
  | .asp t an, code, ha => fun q K r h => by
    simp only [lexec, setK_eq] at h
    obtain ⟨i, o, hx, h⟩ := asPtr_some h
    rw [set_same q.E t _ hx] at h
    exact lexec_ok hT hC an code ha q K r h
  | .own tk, code, _ => by
    cases code with
    | region id ops d =>
      intro q K r h
      cases d with
      | true => simp [lexec] at h
      | false =>
        simp only [lexec] at h
        obtain ⟨q', h, hw⟩ := runOps_ok hT hC (flagA tk ops).toList (List.range ops.size) (by
          apply List.ext_getElem?
          intro i
          simp only [List.getElem?_map]
          by_cases hi : i < ops.size
          · have h2 : i < (flagA tk ops).size := by rw [flag_size]; exact hi
            simp [hi, h2]
          · have h2 : ¬ i < (flagA tk ops).size := by rw [flag_size]; exact hi
            simp [hi, h2]) q h
        exact ⟨.nrm, q', h, fun fr a c hr Qp hQ => wp_region (flag_wpOps _ _ _ (hw hr hQ))⟩
    | _ => intro q K r h; simp [lexec] at h
  | .drawn tk is, code, ha => by
    cases code with
    | region id ops d =>
      intro q K r h
      simp only [AnOk, Bool.and_eq_true] at ha
      obtain ⟨hd, hc⟩ := ha
      subst hd
      obtain ⟨qf, hK, hw⟩ := drawn_ok (id := id) (qm := false) (hd := none) (fun h => by cases h) (fun h => by cases h) (fun _ h => by cases h) hT hC hc h
      exact ⟨.nrm, qf, hK, fun fr a c hr Qp hQ => hw fr a c hr Qp hQ⟩
    | _ => intro q K r h; simp [lexec] at h
  | .quiet tk is, code, ha => by
    cases code with
    | region id ops d =>
      intro q K r h
      simp only [AnOk, Bool.and_eq_true] at ha
      obtain ⟨hd, hc⟩ := ha
      subst hd
      obtain ⟨qf, hK, hw⟩ := drawn_ok (C := quietC C) (id := id) (qm := true) (hd := none) (fun _ => quietC_quiet hC) (fun _ => rfl) (fun _ h => by cases h) hT (quietC_ok hC) hc h
      exact ⟨.nrm, qf, hK, fun fr a c hr Qp hQ => hw fr a c hr Qp hQ⟩
    | _ => intro q K r h; simp [lexec] at h
  | .hide t tk is, code, ha => by
    cases code with
    | region id ops d =>
      intro q K r h
      simp only [AnOk, Bool.and_eq_true] at ha
      obtain ⟨hd, hc⟩ := ha
      subst hd
      simp only [lexec] at h
      split at h
      · rename_i hs
        obtain ⟨k, p, _, h⟩ := asPtr_some h
        obtain ⟨qf, hK, hw⟩ := drawn_ok (C := hideC k C) (id := id) (qm := false) (hd := some k) (q := q) (fun h => by cases h) (fun h => by cases h) (fun _ h => by cases h; exact hideC_hid hC) hT (hideC_ok hC) hc (by rw [hs]; exact h)
        exact ⟨.nrm, qf, hK, fun fr a c hr Qp hQ => hw fr a c hr Qp hQ⟩
      · cases h
    | _ => intro q K r h; simp [lexec] at h
  | .auto, .skip, _ => fun q K r h => ⟨.nrm, q, h, fun fr a c hr Qp hQ => wp_skip (hQ a c hr)⟩
  | .auto, .region id ops draw, _ => fun q K r h => by
    cases draw with
    | true => simp [lexec] at h
    | false =>
      simp only [lexec] at h
      obtain ⟨q', h, hw⟩ := runOps_ok hT hC ops.toList (List.range ops.size) (by
        apply List.ext_getElem?
        intro i
        simp only [List.getElem?_map]
        by_cases hi : i < ops.size <;> simp [hi]) q h
      exact ⟨.nrm, q', h, fun fr a c hr Qp hQ => wp_region (hw hr hQ)⟩
  | .auto, .exit id, _ => fun q K r h => ⟨.ext id, q, h, fun fr a c hr Qp hQ => wp_exit (hQ a c hr)⟩
  | .auto, .ret, _ => fun q K r h => ⟨.ret, q, h, fun fr a c hr Qp hQ => wp_ret (hQ a c hr)⟩
  | .auto, .seq _ _, _ | .auto, .cond _ _ _, _ | .auto, .block _ _, _ | .auto, .loop _, _ | .auto, .scope _, _ | .auto, .label _, _ | .auto, .goto _, _ | .auto, .refuse _, _ | .auto, .rangeFunc _ _ _ _, _ => fun q K r h => by simp [lexec] at h
  | .seq u v, code, ha => by
    cases code with
    | seq x y =>
      intro q K r h
      simp only [lexec] at h
      obtain ⟨e, q1, h, hx⟩ := lexec_ok hT hC u x ha.1 q _ r h
      cases e with
      | nrm =>
        obtain ⟨e, q', h, hy⟩ := lexec_ok hT hC v y ha.2 _ K r h
        exact ⟨e, q', h, fun fr a c hr Qp hQ => wp_seq (hx fr a c hr _ fun a' c' hr => hy fr a' c' hr Qp hQ)⟩
      | ext id => exact ⟨_, _, h, fun fr a c hr Qp hQ => wp_seq (hx fr a c hr _ fun a' c' hr => hQ a' c' hr)⟩
      | ret => exact ⟨_, _, h, fun fr a c hr Qp hQ => wp_seq (hx fr a c hr _ fun a' c' hr => hQ a' c' hr)⟩
    | _ => intro q K r h; simp [lexec] at h
  | .cond u v, code, ha => by
    cases code with
    | cond cnd x y =>
      intro q K r h
      simp only [lexec] at h
      obtain ⟨b, hb, h⟩ := asBool_some h
      have hv : ∀ {fr : Fr} {a : Act} {c : Cx}, Rel fr q a c → a.eval cnd = .bool b := fun {fr a c} hr => by
        obtain ⟨o, hr⟩ := hr
        obtain ⟨O, hrep⟩ := hr.evo cnd
        rw [hb] at hrep
        exact rep_bool hrep
      rcases ifB_some h with ⟨rfl, h⟩ | ⟨rfl, h⟩
      · obtain ⟨e, q', h, hx⟩ := lexec_ok hT hC u x ha.1 q K r h
        exact ⟨e, q', h, fun fr a c hr Qp hQ => wp_cond_true (hv hr) (hx fr a c hr Qp hQ)⟩
      · obtain ⟨e, q', h, hx⟩ := lexec_ok hT hC v y ha.2 q K r h
        exact ⟨e, q', h, fun fr a c hr Qp hQ => wp_cond_false (hv hr) (hx fr a c hr Qp hQ)⟩
    | _ => intro q K r h; simp [lexec] at h
  | .block u, code, ha => by
    cases code with
    | block id x =>
      intro q K r h
      simp only [lexec] at h
      obtain ⟨e, q1, h, hx⟩ := lexec_ok hT hC u x ha q _ r h
      cases e with
      | nrm => exact ⟨.nrm, q1, h, fun fr a c hr Qp hQ => wp_block (hx fr a c hr _ fun a' c' hr => hQ a' c' hr)⟩
      | ext i =>
        rcases ifB_some h with ⟨he, h⟩ | ⟨he, h⟩
        · exact ⟨.nrm, q1, h, fun fr a c hr Qp hQ => wp_block (hx fr a c hr _ fun a' c' hr => by
            simp only [LX.toExit, Exit.inBlock]
            rw [if_pos (Nat.eq_of_beq_eq_true he)]; exact hQ a' c' hr)⟩
        · exact ⟨.ext i, q1, h, fun fr a c hr Qp hQ => wp_block (hx fr a c hr _ fun a' c' hr => by
            simp only [LX.toExit, Exit.inBlock]
            rw [if_neg (fun e => by subst e; simp at he)]; exact hQ a' c' hr)⟩
      | ret => exact ⟨.ret, q1, h, fun fr a c hr Qp hQ => wp_block (hx fr a c hr _ fun a' c' hr => hQ a' c' hr)⟩
    | _ => intro q K r h; simp [lexec] at h

/-- The Bool over a drawn region. -/
def isDrawn (P : Program) (tk : List (Nat × Nat)) (qm hb : Bool) (is : List Nat) : Code → Bool
  | .region _ ops d => d && drawChk P (flagA tk ops) qm hb is
  | _ => true
theorem drawn_an {tk : List (Nat × Nat)} {is : List Nat} {c : Code} (h : isDrawn P tk false false is c = true) : AnOk P (R := R) (.drawn tk is) c := by
  cases c <;> first | exact h | trivial
theorem quiet_an {tk : List (Nat × Nat)} {is : List Nat} {c : Code} (h : isDrawn P tk true false is c = true) : AnOk P (R := R) (.quiet tk is) c := by
  cases c <;> first | exact h | trivial
theorem hide_an {t : Nat} {tk : List (Nat × Nat)} {is : List Nat} {c : Code} (h : isDrawn P tk false true is c = true) : AnOk P (R := R) (.hide t tk is) c := by
  cases c <;> first | exact h | trivial

/-! ### Loops and cuts in their typed form -/

theorem LS.dec_enc : ∀ (s : LS) (v : LV) (x : s.ty), s.dec v = some x → v = s.enc x := by
  intro s v x h
  cases s <;> cases v <;> simp only [LS.dec] at h <;> try (cases h; done)
  all_goals first
    | (split at h
       · rename_i e
         first
           | (cases h; have := ikN_inj e; subst this; rfl)
           | (cases h; have := Nat.eq_of_beq_eq_true e; subst this; rfl)
           | (rw [Bool.and_eq_true] at e; cases h; have e1 := Nat.eq_of_beq_eq_true e.1; have e2 := Nat.eq_of_beq_eq_true e.2; subst e1; subst e2; rfl)
           | (have e1 := Nat.eq_of_beq_eq_true (Bool.and_eq_true _ _ ▸ e : _ ∧ _).1; have e2 := Nat.eq_of_beq_eq_true (Bool.and_eq_true _ _ ▸ e : _ ∧ _).2; subst e1; subst e2; rfl)
       · cases h)
    | (cases h; rfl)
    | skip
theorem decLs_enc : ∀ (l : List LS) (vs : List LV) (x : LTys l), decLs l vs = some x → vs = encL l x
  | [], [], _, _ => rfl
  | [], _ :: _, _, h => by simp [decLs] at h
  | _ :: _, [], _, h => by simp [decLs] at h
  | s :: l, v :: vs, x, h => by
    simp only [decLs] at h
    split at h
    · rename_i x1 h1
      split at h
      · rename_i y h2
        cases h
        rw [s.dec_enc _ _ h1, decLs_enc l vs y h2]; rfl
      · cases h
    · cases h
theorem SH.dec_enc : ∀ (s : SH) (v : LV) (x : s.ty), s.dec v = some x → v = s.enc x
  | .lf s, v, x, h => LS.dec_enc s v x (by cases v <;> exact h)
  | .agg l, v, x, h => by cases v <;> first | exact congrArg LV.agg (decLs_enc l _ x h) | cases h
  | .lbox l, v, x, h => by cases v <;> first | exact congrArg LV.lbox (decLs_enc l _ x h) | cases h
  | .fn f l, v, x, h => by
    cases v <;> try (cases h; done)
    rename_i f' vs
    have h' : (match Nat.beq f' f with | true => decLs l vs | false => none) = some x := h
    split at h'
    · rename_i e; have := Nat.eq_of_beq_eq_true e; subst this; exact congrArg (LV.fn f') (decLs_enc l vs x h')
    · cases h'
theorem Mk.dec_enc : ∀ (m : Mk) (vs : List LV) (x : m.ty), m.dec vs = some x → vs = m.enc x
  | [], [], _, _ => rfl
  | [], _ :: _, _, h => by simp [Mk.dec] at h
  | none :: m, [], _, h => by simp [Mk.dec] at h
  | some _ :: m, [], _, h => by simp [Mk.dec] at h
  | none :: m, v :: vs, x, h => by
    simp only [Mk.dec] at h
    split at h
    · rename_i e
      have : v = .any := by cases v <;> first | rfl | cases e
      rw [Mk.dec_enc m vs x h, this]; rfl
    · cases h
  | some s :: m, v :: vs, x, h => by
    simp only [Mk.dec] at h
    split at h
    · rename_i x1 h1
      split at h
      · rename_i y h2
        cases h
        rw [s.dec_enc _ _ h1, Mk.dec_enc m vs y h2]; rfl
      · cases h
    · cases h

/-- A piece in its typed form: the state is masked and taken apart. -/
def typed (m : Mk) (f : m.ty → List LV → (LX → Q → Option R) → Option R) : Q → (LX → Q → Option R) → Option R := fun q K =>
  match Nat.beq q.E.length m.length with
  | true => (match m.dec (m.co q.E) with
    | some x => f x q.S K
    | none => none)
  | false => none
theorem typed_ok {code : Code} {m : Mk} {f : m.ty → List LV → (LX → Q → Option R) → Option R} {h : Q → (LX → Q → Option R) → Option R} (hh : PieceOk P code h)
    (he : ∀ x S K, h (Qm m x S) K = f x S K) : PieceOk P code (typed m f) := by
  intro q K r h1
  unfold typed at h1
  split at h1
  · rename_i hl
    split at h1
    · rename_i x hx
      rw [← he] at h1
      obtain ⟨e, q', h2, hc⟩ := hh _ K r h1
      have hq : Qm m x q.S = q.mask m := by
        simp only [Qm, Q.mask, ← Mk.dec_enc m _ x hx, Nat.eq_of_beq_eq_true hl]
      exact ⟨e, q', h2, fun fr a c hr Qp hQ => hc fr a c (by rw [hq]; exact hr.mask m) Qp hQ⟩
    · cases h1
  · cases h1
/-- What is known behind a piece is cut down, too. -/
def maskEnd (m : Mk) (h : Q → (LX → Q → Option R) → Option R) : Q → (LX → Q → Option R) → Option R := fun q K => h q fun x q => match x with
  | .nrm => K .nrm (q.mask m)
  | x => K x q
theorem maskEnd_ok {code : Code} {m : Mk} {h : Q → (LX → Q → Option R) → Option R} (hh : PieceOk P code h) : PieceOk P code (maskEnd m h) := by
  intro q K r h1
  obtain ⟨x, q', h2, hc⟩ := hh q _ r h1
  cases x with
  | nrm => exact ⟨.nrm, _, h2, fun fr a c hr Qp hQ => hc fr a c hr Qp fun a' c' hr' => hQ a' c' (hr'.mask m)⟩
  | ext id => exact ⟨_, _, h2, hc⟩
  | ret => exact ⟨_, _, h2, hc⟩
/-- Rounds in their typed form. -/
def rounds {α : Type} (b : (α → List LV → Option R) → α → List LV → Option R) : Nat → α → List LV → Option R
  | 0, _, _ => none
  | n + 1, x, S => b (rounds b n) x S
theorem lloop_typed {B : Q → (LX → Q → Option R) → Option R} {m : Mk} {b : (m.ty → List LV → Option R) → m.ty → List LV → Option R} {K : LX → Q → Option R}
    (hb : ∀ (rec : Q → Option R) x S, B (Qm m x S) (fun x q => match x with | .nrm => rec (q.mask m) | x => K x q) = b (fun x S => rec (Qm m x S)) x S) :
    ∀ n x S, lloop B m n (Qm m x S) K = rounds b n x S
  | 0, _, _ => rfl
  | n + 1, x, S => by
    have := hb (fun q => lloop B m n q K) x S
    refine Eq.trans (show lloop B m (n + 1) (Qm m x S) K = _ from this) ?_
    show b _ x S = b _ x S
    congr 1
    funext x S
    exact lloop_typed hb n x S
/-- A loop in its typed form. -/
theorem loop_ok {code : Code} {B : Q → (LX → Q → Option R) → Option R} (hB : PieceOk P code B) {m : Mk} {k : Nat}
    {b : (LX → Q → Option R) → (m.ty → List LV → Option R) → m.ty → List LV → Option R}
    (hb : ∀ (K : LX → Q → Option R) (rec : Q → Option R) x S, B (Qm m x S) (fun x q => match x with | .nrm => rec (q.mask m) | x => K x q) = b K (fun x S => rec (Qm m x S)) x S) :
    PieceOk P (.loop code) (typed m fun x S K => rounds (b K) k x S) := by
  have hl : PieceOk P (.loop code) (fun q K => lloop B m k q K) := fun q K r h => by
    obtain ⟨e, q', h, hx⟩ := lloop_ok hB r K k q h
    exact ⟨e, q', h, fun fr a c hr Qp hQ => wp_loop_rounds k (hx fr a c hr Qp hQ)⟩
  exact typed_ok hl fun x S K => lloop_typed (hb K) k x S
end
end Go.Lm
