/- Regions whose order is drawn: whatever order is drawn, the answer is that of one order. -/
import Derived.Test.YtefkkflmiabfeaaGreatDoorLmFe
set_option linter.unusedVariables false
set_option linter.unusedSimpArgs false
namespace Go.Lm
section
variable {R : Type} {P : Program} {T : Nat → Option TI} {C : Nat → Hd R} {md : Region.Mode} {ops : Array Oper} {D : List Nat} {qm : Bool} {hd : Option Nat}

/-- Some slots turn, and the store. -/
def Q.giw (q : Q) (U : Acts) (F : List LV → List LV) : Q := { q with E := actAt U q.E, S := F q.S }
theorem giv_giw (q : Q) (U : Acts) (S : Option (List LV)) : q.giv U S = q.giw U (fun S0 => S.getD S0) := rfl
def isCallV (o : Oper) : Bool := match o.op with
  | .call c => (match c.callee with
    | .value _ => true
    | _ => false)
  | _ => false
/-- Calls that leave the store as it is are calm, too. -/
def calmX (qm : Bool) (o : Oper) : Bool := calmB o || (qm && isCallV o)
def isLdS (o : Oper) : Bool := match o.op with
  | .load _ _ => !(Nat.beq (flg o) 0)
  | _ => false
/-- A turn of the store that does not see object h, and leaves it. -/
def HF (h : Nat) (F : List LV → List LV) : Prop := ∀ S, h < S.length → (∀ X, F (S.set h X) = (F S).set h X) ∧ h < (F S).length ∧ (F S).getD h .any = S.getD h .any

theorem Agr.refl (ops : Array Oper) (o : Oper) (q : Q) : Agr ops o q q := ⟨fun _ _ => rfl, fun _ _ => rfl, fun _ _ _ _ _ => rfl, fun _ _ _ _ _ => rfl, fun _ => rfl, fun _ _ => rfl⟩
theorem Agr.symm {o : Oper} {q q' : Q} (h : Agr ops o q q') : Agr ops o q' q :=
  ⟨fun x hx => (h.ev x hx).symm, fun x hx => (h.addr x hx).symm, fun x hx d p hd => (h.box x hx d p (by rw [← h.addr x hx]; exact hd)).symm, fun j w hg d hd => (h.gd j w hg d hd).symm, fun hs => (h.S hs).symm, fun t ht => (h.al t ht).symm⟩
theorem Agr.trans {o : Oper} {q q' q'' : Q} (h : Agr ops o q q') (h' : Agr ops o q' q'') : Agr ops o q q'' :=
  ⟨fun x hx => (h'.ev x hx).trans (h.ev x hx), fun x hx => (h'.addr x hx).trans (h.addr x hx), fun x hx d p hd => (h'.box x hx d p (by rw [h.addr x hx]; exact hd)).trans (h.box x hx d p hd),
    fun j w hg d hd => (h'.gd j w hg d hd).trans (h.gd j w hg d hd), fun hs => (h'.S hs).trans (h.S hs), fun t ht => (h'.al t ht).trans (h.al t ht)⟩

/-- No alias leads to a slot of D. -/
structure Inv (D : List Nat) (q : Q) : Prop where
  al : ∀ t b p, q.A.getD t none = some (b, p) → b ∉ D

theorem okX_al {x : LV} {b p : Nat} (h : okX D x (some (b, p)) = true) : b ∉ D := by
  simp only [okX, Bool.not_eq_true'] at h
  intro hb
  rw [List.contains_iff_mem.2 hb] at h
  exact absurd h (by simp)
theorem clearA_id {d : Nat} : ∀ {A : List (Option (Nat × Nat))}, (∀ t b p, A.getD t none = some (b, p) → b ≠ d) → clearA d A = A
  | [], _ => rfl
  | none :: A, h => by rw [clearA, clearA_id fun t b p hb => h (t + 1) b p (by simpa using hb)]
  | some (b, p) :: A, h => by
    have h0 := h 0 b p rfl
    rw [clearA, clearA_id fun t b p hb => h (t + 1) b p (by simpa using hb)]
    have : Nat.beq b d = false := by
      cases hb : Nat.beq b d
      · rfl
      · exact absurd (Nat.eq_of_beq_eq_true hb) h0
    rw [this]
theorem alOk_some {d b p : Nat} {al : Option (Nat × Nat)} (h : alOk d al = some (b, p)) : al = some (b, p) := by
  cases al with
  | none => cases h
  | some z =>
    obtain ⟨z1, z2⟩ := z
    simp only [alOk] at h
    split at h
    · cases h
    · exact h
theorem getD_set_or {α : Type} (l : List α) (d s : Nat) (v z : α) : (l.set d v).getD s z = l.getD s z ∨ (s = d ∧ (l.set d v).getD s z = v) := by
  by_cases h : s = d
  · subst h
    by_cases hl : s < l.length
    · right; simp [List.getD_eq_getElem?_getD, hl]
    · left; rw [List.set_eq_of_length_le (Nat.le_of_not_lt hl)]
  · left; simp only [List.getD_eq_getElem?_getD, List.getElem?_set_ne (Ne.symm h)]
theorem Inv.giw {q : Q} (h : Inv D q) (U : Acts) (F : List LV → List LV) : Inv D (q.giw U F) := ⟨h.al⟩
theorem Inv.put {q : Q} (h : Inv D q) {x : LV} {al : Option (Nat × Nat)} (hx : okX D x al = true) (d : Option Tmp) : Inv D (q.put d x al) := by
  cases d with
  | none => exact h
  | some d =>
    refine ⟨fun t b p hb => ?_⟩
    simp only [Q.put] at hb
    rcases getD_set_or (clearA d q.A) d t (alOk d al) none with h1 | ⟨_, h1⟩
    · rw [h1] at hb; exact h.al t b p (clearA_get d _ t b p hb).1
    · rw [h1] at hb; have := alOk_some hb; subst this; exact okX_al hx

theorem put_comm {q : Q} (h : Inv D q) {di dj : Option Tmp} {xi xj : LV} {ai aj : Option (Nat × Nat)} {V U : Acts} {G F : List LV → List LV} (hi : okX D xi ai = true) (hj : okX D xj aj = true)
    (hdi : ∀ d, di = some d → d ∈ D ∧ d ∉ us U ∧ dj ≠ some d) (hdj : ∀ d, dj = some d → d ∈ D ∧ d ∉ us V) (hUV : ∀ t, t ∈ us U → t ∉ us V) (hGF : F (G q.S) = G (F q.S)) :
    (((q.giw V G).put di xi ai).giw U F).put dj xj aj = (((q.giw U F).put dj xj aj).giw V G).put di xi ai := by
  cases di with
  | none =>
    cases dj with
    | none => simp only [Q.put, Q.giw, actAt_comm U V q.E hUV, hGF]
    | some d' => simp only [Q.put, Q.giw, actAt_comm U V q.E hUV, actAt_set V _ d' xj (hdj d' rfl).2, hGF]
  | some d =>
    obtain ⟨h1, h2, h3⟩ := hdi d rfl
    have e1 : clearA d q.A = q.A := clearA_id fun t b p hb e => h.al t b p hb (e ▸ h1)
    cases dj with
    | none =>
      simp only [Q.put, Q.giw, actAt_set U _ d xi h2, actAt_comm U V q.E hUV, hGF]
    | some d' =>
      have h4 : d' ≠ d := fun e => h3 (by rw [e])
      have h5 := (hdj d' rfl).1
      have h6 := (hdj d' rfl).2
      have e2 : clearA d' q.A = q.A := clearA_id fun t b p hb e => h.al t b p hb (e ▸ h5)
      have key : ∀ (z y : Nat) (al : Option (Nat × Nat)) (x : LV), y ∈ D → okX D x al = true → clearA y (q.A.set z (alOk z al)) = q.A.set z (alOk z al) := fun z y al x hy hx => clearA_id fun t b p hb e => by
        rcases getD_set_or q.A z t (alOk z al) none with h1 | ⟨_, h1⟩
        · rw [h1] at hb; exact h.al t b p hb (e ▸ hy)
        · rw [h1] at hb; have := alOk_some hb; subst this; exact okX_al hx (e ▸ hy)
      simp only [Q.put, Q.giw, actAt_set U _ d xi h2, actAt_set V _ d' xj h6, actAt_comm U V q.E hUV, e1, e2, key d d' ai xi h5 hi, key d' d aj xj h1 hj, hGF]
      rw [List.set_comm _ _ h4, List.set_comm _ _ h4]

theorem looks_tmp {o : Oper} {t : Nat} (h : Operand.tmp t ∈ o.op.operands.toList) : t ∈ o.looksAt ops :=
  List.mem_append.2 (.inl (List.mem_filterMap.2 ⟨_, h, rfl⟩))
theorem looks_gd {o : Oper} {j : Nat} {w : Bool} {d : Nat} (hg : o.guard = some (j, w)) (hd : (ops[j]?).bind (·.dst) = some d) : d ∈ o.looksAt ops :=
  List.mem_append.2 (.inr (by simp only [hg, hd]; simp))
/-- What another operation turns, an operation that is apart from it does not see. -/
theorem agr_frame {o : Oper} {q : Q} (h : Inv D q) {d : Option Tmp} {x : LV} {al : Option (Nat × Nat)} {U : Acts} {F : List LV → List LV} (hU : ∀ t, t ∈ us U → t ∈ D ∧ t ∉ o.looksAt ops) (hd : ∀ t, d = some t → t ∈ D ∧ t ∉ o.looksAt ops)
    (hS : takeB o = true ∨ F q.S = q.S) : Agr ops o q ((q.giw U F).put d x al) := by
  have hE : ∀ t, t ∉ us U → (∀ s, d = some s → t ≠ s) → ((q.giw U F).put d x al).E.getD t .any = q.E.getD t .any := fun t h1 h2 => by
    cases d with
    | none => exact actAt_ne U q.E t h1
    | some s =>
      show ((actAt U q.E).set s x).getD t .any = _
      rcases getD_set_or (actAt U q.E) s t x .any with h3 | ⟨h3, _⟩
      · rw [h3]; exact actAt_ne U q.E t h1
      · exact absurd h3 (h2 s rfl)
  have hL : ∀ t, t ∈ o.looksAt ops → ((q.giw U F).put d x al).E.getD t .any = q.E.getD t .any := fun t ht => hE t (fun hu => (hU t hu).2 ht) fun s hs e => (hd s hs).2 (e ▸ ht)
  have hA : ∀ t, t ∈ o.looksAt ops → ((q.giw U F).put d x al).A.getD t none = q.A.getD t none := fun t ht => by
    cases d with
    | none => rfl
    | some s =>
      show ((clearA s q.A).set s (alOk s al)).getD t none = _
      rw [clearA_id fun t b p hb e => h.al t b p hb (e ▸ (hd s rfl).1)]
      rcases getD_set_or q.A s t (alOk s al) none with h3 | ⟨h3, _⟩
      · exact h3
      · exact absurd (h3 ▸ ht) (hd s rfl).2
  refine ⟨fun y hy => ?_, fun y hy => ?_, fun y hy b p hb => ?_, fun j w hg s hs => hL s (looks_gd hg hs), fun hs => ?_, fun t ht => hA t (looks_tmp ht)⟩
  · cases y with
    | tmp t => exact hL t (looks_tmp hy)
    | _ => rfl
  · cases y with
    | tmp t => simp only [Q.addr, hA t (looks_tmp hy), hL t (looks_tmp hy)]
    | _ => rfl
  · have hb' : b ∉ us U ∧ ∀ s, d = some s → b ≠ s := by
      cases y with
      | tmp t =>
        simp only [Q.addr] at hb
        split at hb
        · rename_i z hz
          cases hb
          have h1 := h.al t b p hz
          exact ⟨fun hu => h1 (hU b hu).1, fun s hs e => h1 (e ▸ (hd s hs).1)⟩
        · split at hb
          · cases hb
            have h1 := looks_tmp (ops := ops) hy
            exact ⟨fun hu => (hU _ hu).2 h1, fun s hs e => (hd s hs).2 (e ▸ h1)⟩
          · cases hb
      | _ => cases hb
    unfold boxAt
    rw [hE b hb'.1 hb'.2]
  · rcases hS with h1 | h1
    · rw [h1] at hs; cases hs
    · cases d <;> exact h1

def StepAt (P : Program) (ops : Array Oper) (o : Oper) (q q1 : Q) : Prop :=
  ∀ (fr : Fr) (a : Act) (c : Cx), Rel fr q a c → ∀ (next : Act → World → Prop) (Qp : Exit → Act → World → Prop), (∀ a' c', Rel fr q1 a' c' → next a' c'.w) →
    if Region.wanted o (yielded ops a.tmps) = true then o.wp P a c.w next Qp else next (a.put o.dst undef) c.w
def LStep (P : Program) (ops : Array Oper) (D : List Nat) (qm : Bool) (hd : Option Nat) (o : Oper) (q q1 : Q) : Prop :=
  ∃ x al U F, q1 = (q.giw U F).put o.dst x al ∧ okX D x al = true ∧ (∀ t, t ∈ us U → t ∈ usedOf o) ∧ (calmX qm o = true → F = id) ∧ (∀ q', Agr ops o q q' → StepAt P ops o q' ((q'.giw U F).put o.dst x al)) ∧
    ∀ h, hd = some h → isCallV o = true → HF h F ∧ ∀ q', Agr ops o q { q' with S := q.S } → q'.S.set h .any = q.S.set h .any → StepAt P ops o q' ((q'.giw U F).put o.dst x al)
def LA (P : Program) (md : Region.Mode) (ops : Array Oper) (D : List Nat) (qm : Bool) (hd : Option Nat) (qf : Q) : Nat → Array Bool → Q → Prop
  | 0, listed, q => Region.ready md ops listed = [] ∧ q = qf
  | n + 1, listed, q => (Region.ready md ops listed = [] → q = qf) ∧
    ∀ i ∈ Region.ready md ops listed, ∃ o, ops[i]? = some o ∧ ∃ q1, StepAt P ops o q q1 ∧ (softB o = true → LStep P ops D qm hd o q q1) ∧ LA P md ops D qm hd qf n (listed.setIfInBounds i true) q1

theorem LA_wp {qf : Q} : ∀ (n : Nat) (listed : Array Bool) (q : Q), LA P md ops D qm hd qf n listed q → ∀ {fr : Fr} {a : Act} {c : Cx}, Rel fr q a c → ∀ {Qp : Exit → Act → World → Prop}, (∀ a' c', Rel fr qf a' c' → Qp .normal a' c'.w) → wpAny P md ops Qp n listed a c.w
  | 0, listed, q, h, fr, a, c, hr, Qp, hQ => ⟨h.1, hQ a c (h.2 ▸ hr)⟩
  | n + 1, listed, q, h, fr, a, c, hr, Qp, hQ => by
    refine ⟨fun h0 => hQ a c (h.1 h0 ▸ hr), fun i hi => ?_⟩
    obtain ⟨o, ho, q1, hs, _, hla⟩ := h.2 i hi
    have := hs fr a c hr (wpAny P md ops Qp n (listed.setIfInBounds i true)) Qp (fun a' c' hr' => LA_wp n _ q1 hla hr' hQ)
    unfold wpOp
    simp only [ho]
    split
    · rename_i hw; rw [if_pos hw] at this; exact .inl this
    · rename_i hw; rw [if_neg hw] at this; exact this

theorem giw_nil (q : Q) : q.giw [] id = q := rfl

theorem used_looks {o : Oper} {t : Nat} (h : t ∈ usedOf o) : t ∈ o.looksAt ops := by
  have key : t ∈ tmpsOf o.op.operands.toList → t ∈ o.looksAt ops := fun h => by
    obtain ⟨y, hy, hy'⟩ := List.mem_filterMap.1 h
    cases y <;> simp at hy'
    subst hy'
    exact looks_tmp hy
  unfold usedOf at h
  split at h
  · rename_i x ho; exact key (by rw [ho]; simpa [Op.operands] using h)
  · rename_i x y ho
    split at h
    · refine key ?_
      rw [ho]
      cases x <;> simp only [tmpsOf, List.filterMap_cons, List.filterMap_nil, List.mem_cons, List.not_mem_nil, or_false] at h
      subst h
      exact List.mem_filterMap.2 ⟨.tmp t, by simp [Op.operands], rfl⟩
    split at h
    · refine key ?_
      rw [ho]
      cases y <;> simp only [tmpsOf, List.filterMap_cons, List.filterMap_nil, List.mem_cons, List.not_mem_nil, or_false] at h
      subst h
      exact List.mem_filterMap.2 ⟨.tmp t, by simp [Op.operands], rfl⟩
    · cases h
  · split at h
    · cases h
    · exact key h
  · cases h
theorem put_S (q : Q) (V : Acts) (F : List LV → List LV) (d : Option Tmp) (x : LV) (al : Option (Nat × Nat)) : ((q.giw V F).put d x al).S = F q.S := by cases d <;> rfl
theorem calm_call {o : Oper} (h : calmB o = true) : isCallV o = false := by
  cases hc : isCallV o with
  | false => rfl
  | true =>
    unfold isCallV at hc
    split at hc
    · rename_i c ho
      split at hc
      · rename_i x hb; simp [calmB, takeB, stillB, ho, hb] at h
      · cases hc
    · cases hc
theorem calm_no {o : Oper} {h : Nat} {X : Prop} (hc : calmX qm o = true) (hqm : qm = true → hd = none) (hh : hd = some h) (hcv : isCallV o = true) : X := by
  exfalso
  unfold calmX at hc
  rw [Bool.or_eq_true] at hc
  rcases hc with hc | hc
  · rw [calm_call hc] at hcv; cases hcv
  · rw [Bool.and_eq_true] at hc
    rw [hqm hc.1] at hh; cases hh
theorem calm_x {o : Oper} (h : calmB o = true) : calmX qm o = true := by unfold calmX; rw [h]; rfl
theorem x_calm {o : Oper} (h : calmX qm o = true) (hn : ¬ (qm = true ∧ isCallV o = true)) : calmB o = true := by
  unfold calmX at h
  rw [Bool.or_eq_true, Bool.and_eq_true] at h
  exact h.resolve_right hn
theorem LA_first {qf : Q} {i : Nat} {oi : Oper} {xi : LV} {ai : Option (Nat × Nat)} {V : Acts} {B : List Nat} (hi : ops[i]? = some oi) (hcalm : calmX qm oi = true) (hqm : qm = true → hd = none) (hV : ∀ t, t ∈ us V → t ∈ usedOf oi) (hD : ∀ (j : Nat) (o : Oper) (d : Nat), ops[j]? = some o → o.dst = some d → d ∈ D) (hU : ∀ (j : Nat) (o : Oper), ops[j]? = some o → ∀ t, t ∈ usedOf o → t ∈ D) (hx : okX D xi ai = true)
    (hB : ∀ b, b ∈ B → ∃ ob, ops[b]? = some ob ∧ ∃ e ∈ ob.after, Region.binds md e = true ∧ (e.on = i ∨ e.on ∈ B)) :
    ∀ (n : Nat) (listed : Array Bool) (q : Q), (∀ b, b ∈ B → listed.getD b true = false) →
      (∀ j oj, ops[j]? = some oj → j ≠ i → listed.getD j true = false → j ∉ B → oi.apart ops oj = true ∧ softB oj = true ∧ (∀ t, t ∈ usedOf oj → t ∉ oi.looksAt ops) ∧ (∀ t, t ∈ usedOf oi → t ∉ oj.looksAt ops ∧ oj.dst ≠ some t) ∧ (takeB oi = true ∨ calmX qm oj = true)) →
      i ∈ Region.ready md ops listed → Inv D q → (∀ q', Agr ops oi q q' → StepAt P ops oi q' ((q'.giw V id).put oi.dst xi ai)) →
      LA P md ops D qm hd qf n (listed.setIfInBounds i true) ((q.giw V id).put oi.dst xi ai) → LA P md ops D qm hd qf (n + 1) listed q := by
  intro n
  induction n with
  | zero =>
    intro listed q hBl hfree hr hinv hv H
    refine ⟨fun h => (by rw [h] at hr; cases hr), fun j hj => ?_⟩
    by_cases hji : j = i
    · subst hji; exact ⟨oi, hi, _, hv q (Agr.refl _ _ _), fun _ => ⟨xi, ai, V, id, rfl, hx, hV, fun _ => rfl, fun q' ha => hv q' ha, fun h hh hcv => calm_no hcalm hqm hh hcv⟩, H⟩
    · have := ready_mono hj hji
      rw [H.1] at this
      cases this
  | succ n ih =>
    intro listed q hBl hfree hr hinv hv H
    refine ⟨fun h => (by rw [h] at hr; cases hr), fun j hj => ?_⟩
    by_cases hji : j = i
    · subst hji; exact ⟨oi, hi, _, hv q (Agr.refl _ _ _), fun _ => ⟨xi, ai, V, id, rfl, hx, hV, fun _ => rfl, fun q' ha => hv q' ha, fun h hh hcv => calm_no hcalm hqm hh hcv⟩, H⟩
    · obtain ⟨hjun, oj, hoj, hall⟩ := mem_ready.1 hj
      have unl : ∀ k, listed.getD k true = false → ∀ e ∈ oj.after, Region.binds md e = true → e.on ≠ k := fun k h0 e he hb heq => by
        have h1 := hall e he hb
        rw [heq] at h1
        rcases Nat.lt_or_ge k listed.size with h' | h'
        · simp [h'] at h0 h1; rw [h0] at h1; cases h1
        · simp [Array.getElem?_eq_none h'] at h1
      have hjB : j ∉ B := fun hb => by
        obtain ⟨ob, hob, e, he, hbd, hor⟩ := hB j hb
        rw [hoj] at hob; cases hob
        rcases hor with h | h
        · exact unl i (mem_ready.1 hr).1 e he hbd h
        · exact unl e.on (hBl _ h) e he hbd rfl
      obtain ⟨hap, hsoft, hun, hvn, hcm⟩ := hfree j oj hoj hji hjun hjB
      obtain ⟨a1, a2, a3⟩ := Oper.apart_spec hap
      obtain ⟨oj', hoj', q1, _, hl, hla⟩ := H.2 j (ready_mono hj hji)
      rw [hoj] at hoj'
      cases hoj'
      obtain ⟨x, al, U, F, hq1, hxo, hUo, hSn, hloc, hlocH⟩ := hl hsoft
      -- the other one sees nothing of the first one
      have agj : Agr ops oj q ((q.giw V id).put oi.dst xi ai) := agr_frame hinv (fun t ht => ⟨hU i oi hi t (hV t ht), (hvn t (hV t ht)).1⟩) (fun t ht => ⟨hD i oi t hi ht, a1 t ht⟩) (.inr rfl)
      have agi : Agr ops oi q ((q.giw U F).put oj.dst x al) := agr_frame hinv (fun t ht => ⟨hU j oj hoj t (hUo t ht), hun t (hUo t ht)⟩) (fun t ht => ⟨hD j oj t hoj ht, a3 t ht⟩) (hcm.imp (fun h => h) fun h => by rw [hSn h]; rfl)
      have hloc' : ∀ q', Agr ops oj q q' → StepAt P ops oj q' ((q'.giw U F).put oj.dst x al) := fun q' ha => hloc q' (agj.symm.trans ha)
      have hlk : ∀ t, t ∈ us U → t ∈ oj.looksAt ops := fun t ht => used_looks (hUo t ht)
      refine ⟨oj, hoj, _, hloc' q (Agr.refl _ _ _), fun _ => ⟨x, al, U, F, rfl, hxo, hUo, hSn, hloc', fun h hh hcv => ⟨(hlocH h hh hcv).1, fun q' ha hS => (hlocH h hh hcv).2 q' (agj.symm.trans (by rw [put_S]; exact ha)) (by rw [put_S]; exact hS)⟩⟩, ?_⟩
      refine ih (listed.setIfInBounds j true) _ (fun b hb => by
        have hne : j ≠ b := fun e => hjB (by rw [e]; exact hb)
        rw [getD_set_ne true hne]; exact hBl b hb) (fun k ok hk hki hkun hno => ?_) (ready_mono hr (Ne.symm hji)) ((hinv.giw U F).put hxo oj.dst) (fun q' ha => hv q' (agi.trans ha)) ?_
      · refine hfree k ok hk hki ?_ hno
        by_cases hjk : j = k
        · subst hjk; exact hjun
        · rw [getD_set_ne true hjk] at hkun; exact hkun
      · rw [Array.setIfInBounds_comm _ _ hji]
        rw [← put_comm (G := id) (F := F) hinv hx hxo (fun d hd => ⟨hD i oi d hi hd, fun hu => a1 d hd (hlk d hu), a2 d hd⟩) (fun d hd => ⟨hD j oj d hoj hd, fun hu => (hvn d (hV d hu)).2 hd⟩) (fun t ht hv => (hvn t (hV t hv)).1 (hlk t ht)) rfl, ← hq1]
        exact hla

theorem Agr.reS {o : Oper} {q q' : Q} (h : Agr ops o q q') (S : List LV) : Agr ops o { q with S := S } { q' with S := S } :=
  ⟨h.ev, h.addr, h.box, h.gd, fun _ => rfl, h.al⟩
theorem put_reS (q : Q) (V : Acts) (F G : List LV → List LV) (d : Option Tmp) (x : LV) (al : Option (Nat × Nat)) : ({ (q.giw V F).put d x al with S := G q.S } : Q) = (q.giw V G).put d x al := by cases d <;> rfl
theorem ld_take {o : Oper} (h : isLdS o = true) : takeB o = false ∧ isCallV o = false := by
  unfold isLdS at h
  split at h
  · rename_i t x ho
    simp only [Bool.not_eq_true'] at h
    simp [takeB, stillB, isCallV, ho, h]
  · cases h
theorem take_calm {o : Oper} (h : takeB o = true) : calmB o = true := by unfold calmB; rw [h]; rfl
theorem call_take {o : Oper} (h : isCallV o = true) : takeB o = false := by
  cases ht : takeB o with
  | false => rfl
  | true => rw [calm_call (take_calm ht)] at h; cases h
/-- A load from object h may come before calls that do not see it. -/
theorem LA_ldH {qf : Q} {i h : Nat} {oi : Oper} {xi : LV} {G : List LV → List LV} {B : List Nat} (hi : ops[i]? = some oi) (hld : isLdS oi = true) (hhd : hd = some h) (hG : G = id ∨ ∃ X, G = fun S => S.set h X) (hcG : calmB oi = true → G = id)
    (hD : ∀ (j : Nat) (o : Oper) (d : Nat), ops[j]? = some o → o.dst = some d → d ∈ D) (hU : ∀ (j : Nat) (o : Oper), ops[j]? = some o → ∀ t, t ∈ usedOf o → t ∈ D) (hx : okX D xi none = true)
    (hB : ∀ b, b ∈ B → ∃ ob, ops[b]? = some ob ∧ ∃ e ∈ ob.after, Region.binds md e = true ∧ (e.on = i ∨ e.on ∈ B)) :
    ∀ (n : Nat) (listed : Array Bool) (q : Q), (∀ b, b ∈ B → listed.getD b true = false) →
      (∀ j oj, ops[j]? = some oj → j ≠ i → listed.getD j true = false → j ∉ B → oi.apart ops oj = true ∧ softB oj = true ∧ (∀ t, t ∈ usedOf oj → t ∉ oi.looksAt ops) ∧ (takeB oj = true ∨ isCallV oj = true)) →
      i ∈ Region.ready md ops listed → Inv D q → (G = id ∨ h < q.S.length) →
      (∀ q', Agr ops oi q { q' with S := q.S } → (h < q.S.length → q'.S.getD h .any = q.S.getD h .any) → StepAt P ops oi q' ((q'.giw [] G).put oi.dst xi none)) →
      LA P md ops D qm hd qf n (listed.setIfInBounds i true) ((q.giw [] G).put oi.dst xi none) → LA P md ops D qm hd qf (n + 1) listed q := by
  obtain ⟨hnt, hnc⟩ := ld_take hld
  have hGs : ∀ S : List LV, (G S).set h .any = S.set h .any := fun S => by
    rcases hG with rfl | ⟨X, rfl⟩
    · rfl
    · exact List.set_set ..
  have self : ∀ q : Q, (∀ q', Agr ops oi q { q' with S := q.S } → (h < q.S.length → q'.S.getD h .any = q.S.getD h .any) → StepAt P ops oi q' ((q'.giw [] G).put oi.dst xi none)) →
      StepAt P ops oi q ((q.giw [] G).put oi.dst xi none) ∧ (softB oi = true → LStep P ops D qm hd oi q ((q.giw [] G).put oi.dst xi none)) := fun q hv =>
    ⟨hv q (Agr.refl _ _ _) (fun _ => rfl), fun _ => ⟨xi, none, [], G, rfl, hx, (fun _ h => by cases h), (fun hc => hcG (x_calm hc (fun h => by rw [hnc] at h; cases h.2))), (fun q' ha => hv q' (by rw [← ha.S hnt]; exact ha) (fun _ => by rw [ha.S hnt])), fun h' _ hcv => by rw [hnc] at hcv; cases hcv⟩⟩
  intro n
  induction n with
  | zero =>
    intro listed q hBl hfree hr hinv hlen hv H
    refine ⟨fun h => (by rw [h] at hr; cases hr), fun j hj => ?_⟩
    by_cases hji : j = i
    · subst hji; exact ⟨oi, hi, _, (self q hv).1, (self q hv).2, H⟩
    · have := ready_mono hj hji
      rw [H.1] at this
      cases this
  | succ n ih =>
    intro listed q hBl hfree hr hinv hlen hv H
    refine ⟨fun h => (by rw [h] at hr; cases hr), fun j hj => ?_⟩
    by_cases hji : j = i
    · subst hji; exact ⟨oi, hi, _, (self q hv).1, (self q hv).2, H⟩
    · obtain ⟨hjun, oj, hoj, hall⟩ := mem_ready.1 hj
      have unl : ∀ k, listed.getD k true = false → ∀ e ∈ oj.after, Region.binds md e = true → e.on ≠ k := fun k h0 e he hb heq => by
        have h1 := hall e he hb
        rw [heq] at h1
        rcases Nat.lt_or_ge k listed.size with h' | h'
        · simp [h'] at h0 h1; rw [h0] at h1; cases h1
        · simp [Array.getElem?_eq_none h'] at h1
      have hjB : j ∉ B := fun hb => by
        obtain ⟨ob, hob, e, he, hbd, hor⟩ := hB j hb
        rw [hoj] at hob; cases hob
        rcases hor with h | h
        · exact unl i (mem_ready.1 hr).1 e he hbd h
        · exact unl e.on (hBl _ h) e he hbd rfl
      obtain ⟨hap, hsoft, hun, hcm⟩ := hfree j oj hoj hji hjun hjB
      obtain ⟨a1, a2, a3⟩ := Oper.apart_spec hap
      obtain ⟨oj', hoj', q1, _, hl, hla⟩ := H.2 j (ready_mono hj hji)
      rw [hoj] at hoj'
      cases hoj'
      obtain ⟨x, al, U, F, hq1, hxo, hUo, hSn, hloc, hlocH⟩ := hl hsoft
      have agj : Agr ops oj q ((q.giw [] id).put oi.dst xi none) := agr_frame hinv (fun t ht => by cases ht) (fun t ht => ⟨hD i oi t hi ht, a1 t ht⟩) (.inr rfl)
      have agi : Agr ops oi q ((q.giw U id).put oj.dst x al) := agr_frame hinv (fun t ht => ⟨hU j oj hoj t (hUo t ht), hun t (hUo t ht)⟩) (fun t ht => ⟨hD j oj t hoj ht, a3 t ht⟩) (.inr rfl)
      have hlk : ∀ t, t ∈ us U → t ∈ oj.looksAt ops := fun t ht => used_looks (hUo t ht)
      have toi : ∀ q' : Q, Agr ops oj q { q' with S := q.S } → Agr ops oj ((q.giw [] G).put oi.dst xi none) { q' with S := G q.S } := fun q' ha => by
        have h1 := (agj.symm.trans ha).reS (G q.S)
        rw [put_reS] at h1
        exact h1
      -- the other one, ahead of the load
      have key : (∀ q', Agr ops oj q q' → StepAt P ops oj q' ((q'.giw U F).put oj.dst x al)) ∧ (∀ h', hd = some h' → isCallV oj = true → HF h' F ∧ ∀ q', Agr ops oj q { q' with S := q.S } → q'.S.set h' .any = q.S.set h' .any → StepAt P ops oj q' ((q'.giw U F).put oj.dst x al)) ∧
          F (G q.S) = G (F q.S) ∧ (G = id ∨ h < (F q.S).length) ∧ (h < q.S.length → (F q.S).getD h .any = q.S.getD h .any ∧ h < (F q.S).length) := by
        rcases hcm with ht | hcv
        · have hF := hSn (calm_x (take_calm ht))
          subst hF
          refine ⟨fun q' ha => hloc q' ⟨fun x hx => ?_, fun x hx => ?_, fun x hx => ?_, fun j w hg => ?_, (fun hs => by rw [ht] at hs; cases hs), fun t ht => ?_⟩, (fun h' _ hcv => by rw [calm_call (take_calm ht)] at hcv; cases hcv), rfl, hlen, fun h => ⟨rfl, h⟩⟩
          · exact (toi q' (by have := ha.reS q.S; exact this)).ev x hx
          · exact (toi q' (by have := ha.reS q.S; exact this)).addr x hx
          · exact (toi q' (by have := ha.reS q.S; exact this)).box x hx
          · exact (toi q' (by have := ha.reS q.S; exact this)).gd j w hg
          · exact (toi q' (by have := ha.reS q.S; exact this)).al t ht
        · obtain ⟨hHF, hH⟩ := hlocH h hhd hcv
          have h2 : ∀ q' : Q, Agr ops oj q { q' with S := q.S } → q'.S.set h .any = q.S.set h .any → StepAt P ops oj q' ((q'.giw U F).put oj.dst x al) := fun q' ha hS =>
            hH q' (by rw [put_S]; exact toi q' ha) (by rw [put_S, hGs]; exact hS)
          refine ⟨fun q' ha => h2 q' (by have := ha.reS q.S; exact this) (by rw [ha.S (call_take hcv)]), fun h' hh' _ => ?_, ?_, ?_, fun hl => ⟨(hHF _ hl).2.2, (hHF _ hl).2.1⟩⟩
          · rw [hhd] at hh'; cases hh'
            exact ⟨hHF, h2⟩
          · rcases hlen with rfl | hlq
            · rfl
            · rcases hG with rfl | ⟨X, rfl⟩
              · rfl
              · exact (hHF _ hlq).1 X
          · exact hlen.imp id fun hl => (hHF _ hl).2.1
      obtain ⟨k1, k2, k3, k4, k5⟩ := key
      refine ⟨oj, hoj, _, k1 q (Agr.refl _ _ _), fun _ => ⟨x, al, U, F, rfl, hxo, hUo, hSn, k1, k2⟩, ?_⟩
      refine ih (listed.setIfInBounds j true) _ (fun b hb => by
        have hne : j ≠ b := fun e => hjB (by rw [e]; exact hb)
        rw [getD_set_ne true hne]; exact hBl b hb) (fun k ok hk hki hkun hno => ?_) (ready_mono hr (Ne.symm hji)) ((hinv.giw U F).put hxo oj.dst) (by rw [put_S]; exact k4) (fun q' ha hS => ?_) ?_
      · refine hfree k ok hk hki ?_ hno
        by_cases hjk : j = k
        · subst hjk; exact hjun
        · rw [getD_set_ne true hjk] at hkun; exact hkun
      · rw [put_S] at ha hS
        refine hv q' (agi.trans ?_) (fun hl => (hS (k5 hl).2).trans (k5 hl).1)
        have h1 := ha.reS q.S
        have e : ({ (q.giw U F).put oj.dst x al with S := q.S } : Q) = (q.giw U id).put oj.dst x al := put_reS q U F id oj.dst x al
        rw [e] at h1
        exact h1
      · rw [Array.setIfInBounds_comm _ _ hji]
        rw [← put_comm (G := G) (F := F) hinv hx hxo (fun d hd => ⟨hD i oi d hi hd, fun hu => a1 d hd (hlk d hu), a2 d hd⟩) (fun d hd => ⟨hD j oj d hoj hd, fun hu => by cases hu⟩) (fun t ht hv => by cases hv) k3, ← hq1]
        exact hla

/-! ### One order, looked over by a program -/
/-- What cannot come before i: each hangs on i, or on another of them. -/
def blkStep (md : Region.Mode) (ops : Array Oper) (listed : Array Bool) (i : Nat) (B : List Nat) (j : Nat) : List Nat := match !(Nat.beq j i) && !(listed.getD j true) && (match ops[j]? with
    | some oj => oj.after.any (fun e => Region.binds md e && (Nat.beq e.on i || B.any (Nat.beq e.on)))
    | none => false) with
  | true => j :: B
  | false => B
def blk (md : Region.Mode) (ops : Array Oper) (listed : Array Bool) (i : Nat) : List Nat := (List.range ops.size).foldl (blkStep md ops listed i) []
def blkOk (md : Region.Mode) (ops : Array Oper) (listed : Array Bool) (i : Nat) (B : List Nat) : Bool := B.all fun b => !(listed.getD b true) && match ops[b]? with
  | some ob => ob.after.any fun e => Region.binds md e && (Nat.beq e.on i || B.any (Nat.beq e.on))
  | none => false
def free2 (qm : Bool) (ops : Array Oper) (listed : Array Bool) (oi : Oper) (i : Nat) (B : List Nat) : Bool :=
  (List.range ops.size).all fun j => Nat.beq j i || listed.getD j true || B.any (Nat.beq j) || match ops[j]? with
    | some oj => oi.apart ops oj && softB oj && ((usedOf oj).all fun t => !((oi.looksAt ops).contains t)) && ((usedOf oi).all fun t => !((oj.looksAt ops).contains t) && !(oj.dst == some t)) && (takeB oi || calmX qm oj)
    | none => true
def free3 (qm : Bool) (md : Region.Mode) (ops : Array Oper) (listed : Array Bool) (oi : Oper) (i : Nat) (B : List Nat) : Bool := blkOk md ops listed i B && free2 qm ops listed oi i B
theorem any_beq {B : List Nat} {j : Nat} (h : B.any (Nat.beq j) = true) : j ∈ B := by
  obtain ⟨b, hb, e⟩ := List.any_eq_true.1 h
  exact Nat.eq_of_beq_eq_true e ▸ hb
/-- What may come between a load from a hidden object and what hangs on it. -/
def freeH (md : Region.Mode) (ops : Array Oper) (listed : Array Bool) (oi : Oper) (i : Nat) (B : List Nat) : Bool :=
  blkOk md ops listed i B && (List.range ops.size).all fun j => Nat.beq j i || listed.getD j true || B.any (Nat.beq j) || match ops[j]? with
    | some oj => oi.apart ops oj && softB oj && ((usedOf oj).all fun t => !((oi.looksAt ops).contains t)) && (takeB oj || isCallV oj)
    | none => true
def chkSch (qm : Bool) (md : Region.Mode) (ops : Array Oper) (hb : Bool) : List Nat → Array Bool → Bool
  | [], listed => (Region.ready md ops listed).isEmpty
  | i :: is, listed => (match ops[i]? with
    | some o => (match Region.ready md ops listed with | [k] => Nat.beq k i | _ => false) || (calmX qm o && (Region.ready md ops listed).contains i && free3 qm md ops listed o i (blk md ops listed i)) ||
        (hb && isLdS o && (Region.ready md ops listed).contains i && freeH md ops listed o i (blk md ops listed i))
    | none => false) && chkSch qm md ops hb is (listed.setIfInBounds i true)
def drawChk (P : Program) (ops : Array Oper) (qm hb : Bool) (is : List Nat) : Bool := P.follows .mixedOrders && Nat.beq is.length ops.size && chkSch qm .any ops hb is (Array.replicate ops.size false)

def gval (ops : Array Oper) (q : Q) (o : Oper) : Option Bool := match o.guard with
  | none => some true
  | some (j, want) => match (ops[j]?).bind (·.dst) with
    | some d => (match q.E.getD d .any with
      | .bool b => some (match b with | true => want | false => !want)
      | .und => some false
      | _ => none)
    | none => none
theorem set_same (E : List LV) (d : Nat) (v : LV) (h : E.getD d .any = v) : E.set d v = E := by
  rcases Nat.lt_or_ge d E.length with h1 | h1
  · have : E[d] = v := by simpa [List.getD_eq_getElem?_getD, h1] using h
    rw [← this]; exact List.set_getElem_self h1
  · exact List.set_eq_of_length_le h1
theorem wanted_gval {o : Oper} {q : Q} {K : Bool → Q → Option R} {r : R} (h : wanted ops q o K = some r) : ∃ b, gval ops q o = some b ∧ K b q = some r := by
  unfold wanted at h
  simp only [setK_eq] at h
  unfold gval
  split at h
  · rename_i hg
    simp only [hg]
    exact ⟨true, rfl, h⟩
  · rename_i j want hg
    simp only [hg]
    split at h
    · rename_i d hd
      simp only [hd]
      split at h
      · rename_i b hb
        simp only [hb]
        rcases ifB_some h with ⟨rfl, h⟩ | ⟨rfl, h⟩
        · rw [set_same q.E d _ hb] at h; exact ⟨_, rfl, h⟩
        · rw [set_same q.E d _ hb] at h; exact ⟨_, rfl, h⟩
      · rename_i hb
        simp only [hb]
        exact ⟨_, rfl, h⟩
      · cases h
    · cases h
theorem gval_agr {o : Oper} {q q' : Q} (h : Agr ops o q q') : gval ops q' o = gval ops q o := by
  unfold gval
  split
  · rfl
  · rename_i j want hg
    split
    · rename_i d hd
      rw [h.gd j want hg d hd]
    · rfl
theorem gval_ok {o : Oper} {q : Q} {b : Bool} (h : gval ops q o = some b) {fr : Fr} {a : Act} {c : Cx} (hr : Rel fr q a c) : Region.wanted o (yielded ops a.tmps) = b := by
  have hw : wanted ops q o (fun b _ => some b) = some b := by
    unfold gval at h
    unfold wanted
    split at h
    · rename_i hg; simp only [hg]; exact h
    · rename_i j want hg
      simp only [hg]
      split at h
      · rename_i d hd
        simp only [hd]
        split at h
        · rename_i b' hb
          simp only [hb]
          simp only [setK_eq]
          cases b' <;> exact h
        · rename_i hb; simp only [hb]; exact h
        · cases h
      · cases h
  obtain ⟨b1, q1, h1, h2⟩ := wanted_some hw
  cases h1
  exact (h2 hr).2
theorem stepAt_op {o : Oper} {q q1 : Q} {x : LV} {al : Option (Nat × Nat)} (hg : gval ops q o = some true) (h : OpOk P q o x al q1) : StepAt P ops o q (q1.put o.dst x al) := by
  intro fr a c hr next Qp hn
  rw [if_pos (gval_ok hg hr)]
  exact h fr a c hr next Qp fun c' v hx hal => hn _ _ (Rel.put hx o.dst al hal)
theorem stepAt_no {o : Oper} {q : Q} (hg : gval ops q o = some false) : StepAt P ops o q (q.put o.dst .und none) := by
  intro fr a c hr next Qp hn
  rw [if_neg (by rw [gval_ok hg hr]; simp)]
  exact hn _ _ (Rel.put (RelO.flyUnd hr) o.dst none (fun _ _ h => by cases h))

theorem start_inv {q : Q} (h : startOk D q = true) : Inv D q := by
  simp only [startOk, List.all_eq_true] at h
  refine ⟨fun t b p hb hd => ?_⟩
  have hm : (some (b, p) : Option (Nat × Nat)) ∈ q.A := by
    simp only [List.getD_eq_getElem?_getD] at hb
    cases hz : q.A[t]? with
    | none => rw [hz] at hb; cases hb
    | some z => rw [hz] at hb; simp only [Option.getD_some] at hb; rw [← hb]; exact List.mem_of_getElem? hz
  have := h _ hm
  simp only [Bool.not_eq_true'] at this
  rw [List.contains_iff_mem.2 hd] at this
  cases this
theorem calm_soft {o : Oper} (h : calmB o = true) : softB o = true := by
  unfold calmB at h
  unfold softB
  rw [Bool.or_eq_true] at h ⊢
  rcases h with h | h
  · unfold takeB at h
    rw [Bool.or_eq_true] at h
    rcases h with h | h
    · exact .inl h
    · right
      split at h
      · rename_i x ho; simp only [mildB, ho]
      · cases h
  · right
    split at h
    · rename_i t x ho
      simp only [Bool.and_eq_true] at h
      simp only [mildB, ho]; exact h.1
    · rename_i ho
      simp only [mildB, ho]
      rw [Nat.eq_of_beq_eq_true h]; rfl
    · rename_i ho; simp only [mildB, ho]
    · rename_i cl ho
      split at h
      · rename_i hb; simp only [mildB, ho, hb]; exact h
      · cases h
    · cases h
def LdH (P : Program) (ops : Array Oper) (D : List Nat) (hd : Option Nat) (o : Oper) (q q1 : Q) : Prop :=
  ∀ h, hd = some h → isLdS o = true → ∃ xi G, q1 = (q.giw [] G).put o.dst xi none ∧ okX D xi none = true ∧ (G = id ∨ ∃ X, G = fun S => S.set h X) ∧ (G = id ∨ h < q.S.length) ∧ (calmB o = true → G = id) ∧
    ∀ q', Agr ops o q { q' with S := q.S } → (h < q.S.length → q'.S.getD h .any = q.S.getD h .any) → StepAt P ops o q' ((q'.giw [] G).put o.dst xi none)
theorem hidChk_some {hid : Option Nat} {o : Oper} {q : Q} {A : Option R} {r : R} (h : hidChk hid o q A = some r) : A = some r ∧ ∀ k, hid = some k → isLdS o = true → ∃ t x p, o.op = .load t x ∧ ev q.E x = .ptr k p := by
  unfold hidChk at h
  split at h
  · exact ⟨h, fun k hk => by cases hk⟩
  · rename_i k
    split at h
    · rename_i t x ho
      split at h
      · rename_i hf
        exact ⟨h, fun k' _ hl => by simp [isLdS, ho, hf] at hl⟩
      · obtain ⟨id, p, hx, h⟩ := asPtr_some h
        rcases ifB_some h with ⟨h1, h2⟩ | ⟨_, h⟩
        · have := Nat.eq_of_beq_eq_true h1
          subst this
          exact ⟨h2, fun k' hk' _ => by cases hk'; exact ⟨t, x, p, ho, hx⟩⟩
        · cases h
    · rename_i ho
      exact ⟨h, fun k' _ hl => by
        unfold isLdS at hl
        split at hl
        · rename_i t x ho'; exact absurd ho' (ho t x)
        · cases hl⟩
theorem objAt_len {S : List LV} {id : Nat} {K : (List LV → LV) → List LV → Option R} {r : R} (h : objAt S id K = some r) : id < S.length := by
  obtain ⟨mk, ty, xs, hm, hx, _⟩ := objAt_some h
  exact getD_lt hx (hm.ne xs)
theorem asPtr_at {R' : Type} (i o : Nat) (K : Nat → Nat → Option R') : asPtr (.ptr i o) K = K i o := rfl
theorem load_locH (hT : ∀ t ti, T t = some ti → tiOf P t = some ti) {o : Oper} {q : Q} {h p : Nat} {t : TypeId} {x : Operand} (ho : o.op = .load t x) (hl : isLdS o = true) (hx : ev q.E x = .ptr h p) {K : LV → Option (Nat × Nat) → Q → Option R} {r : R} (hk : lop T C o q K = some r) :
    ∃ xi G, K xi none (q.giw [] G) = some r ∧ (G = id ∨ ∃ X, G = fun S => S.set h X) ∧ (G = id ∨ h < q.S.length) ∧ (calmB o = true → G = id) ∧
      ∀ q', Agr ops o q { q' with S := q.S } → (h < q.S.length → q'.S.getD h .any = q.S.getD h .any) → OpOk P q' o xi none (q'.giw [] G) := by
  have hf : Nat.beq (flg o) 0 = false := by simpa [isLdS, ho] using hl
  have hns : takeB o = false := (ld_take hl).1
  have main : ∃ xi G, K xi none (q.giw [] G) = some r ∧ (G = id ∨ ∃ X, G = fun S => S.set h X) ∧ (G = id ∨ h < q.S.length) ∧ (calmB o = true → G = id) ∧
      ∀ q', Agr ops o q { q' with S := q.S } → (h < q.S.length → q'.S.getD h .any = q.S.getD h .any) → ∀ {R' : Type} (C' : Nat → Hd R') (K' : LV → Option (Nat × Nat) → Q → Option R'), lop T C' o q' K' = K' xi none (q'.giw [] G) := by
    simp only [lop, ho, hf] at hk
    split at hk
    · rename_i ti ht
      obtain ⟨id', p', hp, hk1⟩ := asPtr_some hk
      rw [hx] at hp
      cases hp
      have hlen := objAt_len hk1
      obtain ⟨ty, _, xs, hm, hxs, hk2⟩ := objAt_some hk1
      have ob : ∀ q' : Q, (h < q.S.length → q'.S.getD h .any = q.S.getD h .any) → ∀ {R' : Type} (K' : (List LV → LV) → List LV → Option R'), objAt q'.S h K' = K' ty xs := fun q' hq R' K' => by
        unfold objAt; rw [hq hlen, hxs]; rcases hm with rfl | rfl <;> rfl
      have evx : ∀ q' : Q, Agr ops o q { q' with S := q.S } → ev q'.E x = .ptr h p := fun q' ha => (ha.ev x (by rw [ho]; simp [Op.operands])).trans hx
      split at hk2
      · rename_i h9
        split at hk2
        · rename_i h3
          unfold ldRaw at hk2
          rcases ifB_some hk2 with ⟨h4, hk3⟩ | ⟨_, h⟩
          · exact ⟨_, id, hk3, .inl rfl, .inl rfl, (fun _ => rfl), fun q' ha hq R' C' K' => by
              simp only [lop, ho, hf, ht, evx q' ha, asPtr_at, ob q' hq, h9, h3, ldRaw, h4, ifB]; rfl⟩
          · cases h
        · cases hk2
      rename_i h9
      split at hk2
      · rename_i h3 h4
        obtain ⟨ys, hk3, h5⟩ := asOwn_loc hk2
        have hnc : calmB o = false := by simp [calmB, hns, ho, h3]
        exact ⟨_, fun S => S.set h (ty (xs.set p (.sl ti.esz ys))), hk3, .inr ⟨_, rfl⟩, .inr hlen, (fun hc => by rw [hnc] at hc; cases hc), fun q' ha hq R' C' K' => by
          simp only [lop, ho, hf, ht, evx q' ha, asPtr_at, ob q' hq, h9, h3, h4, h5]; rfl⟩
      · cases hk2
      · rename_i h3
        obtain ⟨v, hk3, h5⟩ := ldO_loc hk2
        split at hk3
        · rename_i h6 h7
          obtain ⟨i', p', hk4, h8⟩ := asPtr_loc hk3
          exact ⟨_, id, hk4, .inl rfl, .inl rfl, (fun _ => rfl), fun q' ha hq R' C' K' => by
            simp only [lop, ho, hf, ht, evx q' ha, asPtr_at, ob q' hq, h9, h3, h5, h6, h7, h8]; rfl⟩
        · rename_i h6 h7
          obtain ⟨i', hk4, h8⟩ := asMap_loc hk3
          exact ⟨_, id, hk4, .inl rfl, .inl rfl, (fun _ => rfl), fun q' ha hq R' C' K' => by
            simp only [lop, ho, hf, ht, evx q' ha, asPtr_at, ob q' hq, h9, h3, h5, h6, h7, h8]; rfl⟩
        · cases hk3
        · rename_i h6
          exact ⟨_, id, hk3, .inl rfl, .inl rfl, (fun _ => rfl), fun q' ha hq R' C' K' => by
            simp only [lop, ho, hf, ht, evx q' ha, asPtr_at, ob q' hq, h9, h3, h5, h6]; rfl⟩
    · cases hk
  obtain ⟨xi, G, m1, m2, m3, m4, m5⟩ := main
  refine ⟨xi, G, m1, m2, m3, m4, fun q' ha hq => ?_⟩
  have e := m5 q' ha hq (R' := LV × Option (Nat × Nat) × Q) (fun _ _ _ _ => none) fun x al q => some (x, al, q)
  obtain ⟨x', al, q'', h1, h2⟩ := lop_ok hT (fun f => noneHd f) o q' _ _ e
  simp only [Option.some.injEq, Prod.mk.injEq] at h1
  obtain ⟨rfl, rfl, rfl⟩ := h1
  exact h2
theorem call_locQ (hH : QuietC P C) {o : Oper} {q : Q} (hcv : isCallV o = true) {K : LV → Option (Nat × Nat) → Q → Option R} {r : R} (hk : lop T C o q K = some r) :
    ∃ x U, K x none (q.giw U id) = some r ∧ (∀ t, t ∈ us U → t ∈ usedOf o) ∧ ∀ q', Agr ops o q q' → OpOk P q' o x none (q'.giw U id) := by
  have hns := call_take hcv
  unfold isCallV at hcv
  split at hcv
  · rename_i cl ho
    split at hcv
    · rename_i x hb
      have huo : usedOf o = tmpsOf o.op.operands.toList := by simp only [usedOf, ho, hb]
      simp only [lop, ho, hb] at hk
      obtain ⟨f, cs, hx, hk⟩ := asFn_some hk
      obtain ⟨hen, v, hk, hc⟩ := hH f _ _ _ _ hk
      obtain ⟨callee, as, ts⟩ := cl
      simp only at hb
      subst hb
      have hops : ∀ y, y ∈ as.toList → y ∈ o.op.operands.toList := fun y hy => by rw [ho]; simp only [Op.operands, Call.operands]; simp [by simpa using hy]
      have hxo : x ∈ o.op.operands.toList := by rw [ho]; simp only [Op.operands, Call.operands]; simp
      simp only [takes_give] at hk
      have hg : ∀ q0 : Q, ({ q0.give (tmpsOf as.toList) q0.S with S := q0.S } : Q) = q0.giw (dups (tmpsOf as.toList)) id := fun q0 => by unfold Q.give Q.giw; rw [dupAt_act]; rfl
      rw [hg] at hk
      refine ⟨v, dups (tmpsOf as.toList), hk, fun t ht => ?_, fun q' ha => ?_⟩
      · rw [huo]
        rw [us_dups] at ht
        obtain ⟨y, hy, hy'⟩ := List.mem_filterMap.1 ht
        exact List.mem_filterMap.2 ⟨y, hops y hy, hy'⟩
      · have e := takes_congr as.toList q q' (fun y hy => ha.ev y (hops y hy))
        have hc' : LCalls P f ((takes as.toList q').1 ++ cs) q'.S v q'.S := by
          rw [e, ha.S hns]; exact hc
        have := ok_call (P := P) (q := q') ho ((ha.ev x hxo).trans hx) hen hc'
        rw [takes_give] at this
        rw [← hg]
        exact this
    · cases hcv
  · cases hcv
theorem call_locH {h : Nat} (hH : HidC P h C) {o : Oper} {q : Q} (hcv : isCallV o = true) {K : LV → Option (Nat × Nat) → Q → Option R} {r : R} (hk : lop T C o q K = some r) :
    ∃ x U F, K x none (q.giw U F) = some r ∧ (∀ t, t ∈ us U → t ∈ usedOf o) ∧ HF h F ∧ ∀ q', Agr ops o q { q' with S := q.S } → q'.S.set h .any = q.S.set h .any → OpOk P q' o x none (q'.giw U F) := by
  unfold isCallV at hcv
  split at hcv
  · rename_i cl ho
    split at hcv
    · rename_i x hb
      have huo : usedOf o = tmpsOf o.op.operands.toList := by simp only [usedOf, ho, hb]
      simp only [lop, ho, hb] at hk
      obtain ⟨f, cs, hx, hk⟩ := asFn_some hk
      obtain ⟨hen, v, S₁, hk, hl, hc⟩ := hH f _ _ _ _ hk
      obtain ⟨callee, as, ts⟩ := cl
      simp only at hb
      subst hb
      have hops : ∀ y, y ∈ as.toList → y ∈ o.op.operands.toList := fun y hy => by rw [ho]; simp only [Op.operands, Call.operands]; simp [by simpa using hy]
      have hxo : x ∈ o.op.operands.toList := by rw [ho]; simp only [Op.operands, Call.operands]; simp
      simp only [takes_give] at hk
      have hg : ∀ q0 : Q, ({ q0.give (tmpsOf as.toList) q0.S with S := S₁.set h (q0.S.getD h .any) } : Q) = q0.giw (dups (tmpsOf as.toList)) (fun S => S₁.set h (S.getD h .any)) := fun q0 => by unfold Q.give Q.giw; rw [dupAt_act]
      rw [hg] at hk
      refine ⟨v, dups (tmpsOf as.toList), _, hk, fun t ht => ?_, fun S hS => ⟨fun X => ?_, by simpa using hl, ?_⟩, fun q' ha hS => ?_⟩
      · rw [huo]
        rw [us_dups] at ht
        obtain ⟨y, hy, hy'⟩ := List.mem_filterMap.1 ht
        exact List.mem_filterMap.2 ⟨y, hops y hy, hy'⟩
      · simp only [List.set_set]
        rw [getD_set_self _ _ _ hS]
      · exact getD_set_self _ _ _ hl
      · have e := takes_congr as.toList q q' (fun y hy => ha.ev y (hops y hy))
        have hc' : LCalls P f ((takes as.toList q').1 ++ cs) q'.S v (S₁.set h (q'.S.getD h .any)) := by
          rw [e]; exact hc q'.S hS
        have := ok_call (P := P) (q := q') ho ((ha.ev x hxo).trans hx) hen hc'
        rw [takes_give] at this
        rw [← hg]
        exact this
    · cases hcv
  · cases hcv
theorem sch_ok (hQui : qm = true → QuietC P C) (hqm : qm = true → hd = none) (hHid : ∀ h, hd = some h → HidC P h C) (hT : ∀ t ti, T t = some ti → tiOf P t = some ti) (hC : ∀ f, HSound P f (C f)) (hD : ∀ (j : Nat) (o : Oper) (d : Nat), ops[j]? = some o → o.dst = some d → d ∈ D) (hU : ∀ (j : Nat) (o : Oper), ops[j]? = some o → ∀ t, t ∈ usedOf o → t ∈ D)
    {K : Q → Option R} {r : R} : ∀ (is : List Nat) (listed : Array Bool) (q : Q), chkSch qm md ops hd.isSome is listed = true → (is ≠ [] → Inv D q) → runD T C ops D hd (opsAt ops.toList is) q K = some r → ∃ qf, K qf = some r ∧ LA P md ops D qm hd qf is.length listed q := by
  intro is
  induction is with
  | nil =>
    intro listed q hc _ h
    exact ⟨q, h, by simpa [chkSch] using hc, rfl⟩
  | cons i is ih =>
    intro listed q hc hinv h
    have hinv := hinv (by simp)
    simp only [chkSch, Bool.and_eq_true] at hc
    obtain ⟨hc1, hc2⟩ := hc
    split at hc1
    rotate_left
    · cases hc1
    rename_i o ho
    have hol : ops.toList[i]? = some o := by simpa using ho
    simp only [opsAt, hol, runD, Q.putK_eq] at h
    obtain ⟨b, hg, h⟩ := wanted_gval h
    -- how the step is used
    have fin : ∀ {x : LV} {al : Option (Nat × Nat)} {q1 : Q} {V : Acts}, StepAt P ops o q q1 → (softB o = true → LStep P ops D qm hd o q q1) → (calmX qm o = true → okX D x al = true ∧ (∀ t, t ∈ us V → t ∈ usedOf o) ∧ q1 = (q.giw V id).put o.dst x al ∧ ∀ q', Agr ops o q q' → StepAt P ops o q' ((q'.giw V id).put o.dst x al)) → LdH P ops D hd o q q1 →
        Inv D q1 → runD T C ops D hd (opsAt ops.toList is) q1 K = some r → ∃ qf, K qf = some r ∧ LA P md ops D qm hd qf (i :: is).length listed q := by
      intro x al q1 V h1 h2 h3 h6 h4 h5
      obtain ⟨qf, hK, hla⟩ := ih (listed.setIfInBounds i true) q1 hc2 (fun _ => h4) h5
      refine ⟨qf, hK, ?_⟩
      have hblk : ∀ {B : List Nat}, blkOk md ops listed i B = true → (∀ b, b ∈ B → listed.getD b true = false) ∧ ∀ b, b ∈ B → ∃ ob, ops[b]? = some ob ∧ ∃ e ∈ ob.after, Region.binds md e = true ∧ (e.on = i ∨ e.on ∈ B) := fun {B} hbk => by
        simp only [blkOk, List.all_eq_true, Bool.and_eq_true, Bool.not_eq_true'] at hbk
        refine ⟨fun b hb => (hbk b hb).1, fun b hb => ?_⟩
        have := (hbk b hb).2
        split at this
        · rename_i ob hob
          obtain ⟨e, he, hbd⟩ := Array.any_eq_true'.1 this
          simp only [Bool.and_eq_true, Bool.or_eq_true] at hbd
          exact ⟨ob, hob, e, he, hbd.1, hbd.2.imp (fun h => Nat.eq_of_beq_eq_true h) any_beq⟩
        · cases this
      rw [Bool.or_eq_true, Bool.or_eq_true] at hc1
      rcases hc1 with (hk | hc) | hc
      · split at hk
        · rename_i k hr
          have := Nat.eq_of_beq_eq_true hk
          subst this
          refine (show LA P md ops D qm hd qf (is.length + 1) listed q from ⟨fun h0 => (by rw [hr] at h0; cases h0), fun j hj => ?_⟩)
          rw [hr] at hj
          simp only [List.mem_cons, List.not_mem_nil, or_false] at hj
          subst hj
          exact ⟨o, ho, q1, h1, h2, hla⟩
        · cases hk
      · simp only [Bool.and_eq_true, free3] at hc
        obtain ⟨⟨hs, hrd⟩, hbk, hfr⟩ := hc
        obtain ⟨hx, hV, rfl, hv⟩ := h3 hs
        generalize blk md ops listed i = B at hbk hfr
        refine LA_first (B := B) ho hs hqm hV hD hU hx (hblk hbk).2 is.length listed q (hblk hbk).1 (fun j oj hj hji hun hjB => ?_) (by simpa using hrd) hinv hv hla
        simp only [free2, List.all_eq_true, List.mem_range] at hfr
        have := hfr j (Array.getElem?_eq_some_iff.1 hj).1
        simp only [hj, Bool.or_eq_true, hun, Bool.false_eq_true, or_false] at this
        rcases this with (h | h) | h
        · exact absurd (Nat.eq_of_beq_eq_true h) hji
        · exact absurd (any_beq h) hjB
        · simp only [Bool.and_eq_true, List.all_eq_true, Bool.not_eq_true', Bool.or_eq_true] at h
          exact ⟨h.1.1.1.1, h.1.1.1.2, (fun t ht hl => by have := h.1.1.2 t ht; rw [List.contains_iff_mem.2 hl] at this; cases this),
            (fun t ht => ⟨(fun hl => by have := (h.1.2 t ht).1; rw [List.contains_iff_mem.2 hl] at this; cases this), (fun hl => by have := (h.1.2 t ht).2; rw [hl] at this; simp at this)⟩), h.2⟩
      · simp only [Bool.and_eq_true, freeH] at hc
        obtain ⟨⟨⟨hsome, hld⟩, hrd⟩, hbk, hfr⟩ := hc
        obtain ⟨h, hh⟩ := Option.isSome_iff_exists.1 hsome
        obtain ⟨xi, G, rfl, hx, hG, hlen, hcG, hv⟩ := h6 h hh hld
        generalize blk md ops listed i = B at hbk hfr
        refine LA_ldH (B := B) ho hld hh hG hcG hD hU hx (hblk hbk).2 is.length listed q (hblk hbk).1 (fun j oj hj hji hun hjB => ?_) (by simpa using hrd) hinv hlen hv hla
        simp only [List.all_eq_true, List.mem_range] at hfr
        have := hfr j (Array.getElem?_eq_some_iff.1 hj).1
        simp only [hj, Bool.or_eq_true, hun, Bool.false_eq_true, or_false] at this
        rcases this with (h | h) | h
        · exact absurd (Nat.eq_of_beq_eq_true h) hji
        · exact absurd (any_beq h) hjB
        · simp only [Bool.and_eq_true, List.all_eq_true, Bool.not_eq_true', Bool.or_eq_true] at h
          exact ⟨h.1.1.1, h.1.1.2, (fun t ht hl => by have := h.1.2 t ht; rw [List.contains_iff_mem.2 hl] at this; cases this), h.2⟩
    cases b with
    | false =>
      simp only at h
      have hv : ∀ (q' : Q) (S : List LV), Agr ops o q { q' with S := S } → StepAt P ops o q' (q'.put o.dst .und none) := fun q' S ha => stepAt_no (by have := gval_agr ha; exact this.trans hg)
      exact fin (x := .und) (al := none) (V := []) (hv q q.S (Agr.refl _ _ _)) (fun _ => ⟨.und, none, [], id, rfl, rfl, (fun _ h => by cases h), (fun _ => rfl), (fun q' ha => hv q' q'.S ha), fun h _ _ => ⟨fun S hS => ⟨fun _ => rfl, hS, rfl⟩, fun q' ha _ => hv q' _ ha⟩⟩)
        (fun _ => ⟨rfl, (fun _ h => by cases h), rfl, fun q' ha => hv q' q'.S ha⟩) (fun h _ _ => ⟨.und, id, rfl, rfl, .inl rfl, .inl rfl, (fun _ => rfl), fun q' ha _ => hv q' _ ha⟩) (hinv.put rfl _) h
    | true =>
      simp only at h
      obtain ⟨h, hid⟩ := hidChk_some h
      by_cases hs : stillB o = true
      · have hnl : isLdS o = false := by
          cases hl : isLdS o with
          | false => rfl
          | true => have := (ld_take hl).1; simp [takeB, hs] at this
        have hnc : isCallV o = false := calm_call (take_calm (by simp [takeB, hs]))
        obtain ⟨x, al, h, hloc⟩ := still_loc hs (Agr.refl ops o q) h
        split at h
        · rename_i hx
          simp only [Bool.and_eq_true] at hx
          have hv : ∀ q', Agr ops o q q' → StepAt P ops o q' (q'.put o.dst x al) := fun q' ha => by
            have e1 := hloc (R' := LV × Option (Nat × Nat)) (fun _ _ _ _ => none) fun x al _ => some (x, al)
            obtain ⟨x', al', h1, h2⟩ := still_loc hs ha e1
            simp only [Option.some.injEq, Prod.mk.injEq] at h1
            obtain ⟨rfl, rfl⟩ := h1
            have e2 := h2 (R' := LV × Option (Nat × Nat) × Q) (fun _ _ _ _ => none) fun x al q => some (x, al, q)
            obtain ⟨x2, al2, q2, h3, h4⟩ := lop_ok hT (fun f => noneHd f) o q' _ _ e2
            simp only [Option.some.injEq, Prod.mk.injEq] at h3
            obtain ⟨rfl, rfl, rfl⟩ := h3
            exact stepAt_op (by rw [gval_agr ha]; exact hg) h4
          exact fin (V := []) (hv q (Agr.refl _ _ _)) (fun _ => ⟨x, al, [], id, rfl, hx.1, (fun _ h => by cases h), (fun _ => rfl), hv, fun h _ hc => by rw [hnc] at hc; cases hc⟩) (fun _ => ⟨hx.1, (fun _ h => by cases h), rfl, hv⟩) (fun h _ hl => by rw [hnl] at hl; cases hl) (hinv.put hx.1 _) h
        · cases h
      · by_cases hm : mildB o = true
        · by_cases hL : ∃ k, hd = some k ∧ isLdS o = true
          · obtain ⟨k, hk, hl⟩ := hL
            obtain ⟨t, y, p, hop, hy⟩ := hid k hk hl
            obtain ⟨xi, G, h, m2, m3, m4, m5⟩ := load_locH (ops := ops) hT hop hl hy h
            split at h
            · rename_i hx
              simp only [Bool.and_eq_true] at hx
              have hv : ∀ q' : Q, Agr ops o q { q' with S := q.S } → (k < q.S.length → q'.S.getD k .any = q.S.getD k .any) → StepAt P ops o q' ((q'.giw [] G).put o.dst xi none) := fun q' ha hq => stepAt_op (by have := gval_agr ha; exact this.trans hg) (m5 q' ha hq)
              have hnt := (ld_take hl).1
              have hv1 : ∀ q', Agr ops o q q' → StepAt P ops o q' ((q'.giw [] G).put o.dst xi none) := fun q' ha => hv q' (by rw [← ha.S hnt]; exact ha) (fun _ => by rw [ha.S hnt])
              exact fin (x := xi) (al := none) (V := []) (hv1 q (Agr.refl _ _ _)) (fun _ => ⟨xi, none, [], G, rfl, hx.1, (fun _ h => by cases h), (fun hc => m4 (x_calm hc (fun h => by rw [(ld_take hl).2] at h; cases h.2))), hv1, fun h _ hc => by rw [(ld_take hl).2] at hc; cases hc⟩)
                (fun hc => by have := m4 (x_calm hc (fun h => by rw [(ld_take hl).2] at h; cases h.2)); subst this; exact ⟨hx.1, (fun _ h => by cases h), rfl, hv1⟩) (fun h hh _ => by rw [hk] at hh; cases hh; exact ⟨xi, G, rfl, hx.1, m2, m3, m4, hv⟩) ((hinv.giw [] G).put hx.1 _) h
            · cases h
          · have hLd : LdH P ops D hd o q = fun _ => LdH P ops D hd o q q := by
              funext q1
              exact propext ⟨fun _ k hk hl => absurd ⟨k, hk, hl⟩ hL, fun _ k hk hl => absurd ⟨k, hk, hl⟩ hL⟩
            have hLd : ∀ q1, LdH P ops D hd o q q1 := fun q1 k hk hl => absurd ⟨k, hk, hl⟩ hL
            by_cases hQ : qm = true ∧ isCallV o = true
            · obtain ⟨x, U, h, hUo, hop⟩ := call_locQ (ops := ops) (hQui hQ.1) hQ.2 h
              split at h
              · rename_i hx
                simp only [Bool.and_eq_true] at hx
                have hv : ∀ q', Agr ops o q q' → StepAt P ops o q' ((q'.giw U id).put o.dst x none) := fun q' ha => stepAt_op (by rw [gval_agr ha]; exact hg) (hop q' ha)
                exact fin (x := x) (al := none) (V := U) (hv q (Agr.refl _ _ _)) (fun _ => ⟨x, none, U, id, rfl, hx.1, hUo, (fun _ => rfl), hv, fun h hh _ => by rw [hqm hQ.1] at hh; cases hh⟩) (fun _ => ⟨hx.1, hUo, rfl, hv⟩) (hLd _) ((hinv.giw U id).put hx.1 _) h
              · cases h
            by_cases hcH : ∃ k, hd = some k ∧ isCallV o = true
            · obtain ⟨k, hk, hcv⟩ := hcH
              obtain ⟨x, U, F, h, hUo, hHF, hop⟩ := call_locH (ops := ops) (hHid k hk) hcv h
              have hnt := call_take hcv
              have hncm : calmB o = false := by
                cases hc : calmB o with
                | false => rfl
                | true => rw [calm_call hc] at hcv; cases hcv
              split at h
              · rename_i hx
                simp only [Bool.and_eq_true] at hx
                have hv : ∀ q' : Q, Agr ops o q { q' with S := q.S } → q'.S.set k .any = q.S.set k .any → StepAt P ops o q' ((q'.giw U F).put o.dst x none) := fun q' ha hq => stepAt_op (by have := gval_agr ha; exact this.trans hg) (hop q' ha hq)
                have hv1 : ∀ q', Agr ops o q q' → StepAt P ops o q' ((q'.giw U F).put o.dst x none) := fun q' ha => hv q' (by rw [← ha.S hnt]; exact ha) (by rw [ha.S hnt])
                exact fin (x := x) (al := none) (V := U) (hv1 q (Agr.refl _ _ _)) (fun _ => ⟨x, none, U, F, rfl, hx.1, hUo, (fun hc => by have := x_calm hc hQ; rw [hncm] at this; cases this), hv1, fun h hh _ => by rw [hk] at hh; cases hh; exact ⟨hHF, hv⟩⟩)
                  (fun hc => by have := x_calm hc hQ; rw [hncm] at this; cases this) (hLd _) ((hinv.giw U F).put hx.1 _) h
              · cases h
            · obtain ⟨x, U, S, h, htk, hUo, hop⟩ := mild_loc hT hC (ops := ops) hm h
              split at h
              · rename_i hx
                simp only [Bool.and_eq_true] at hx
                have hv : ∀ q', Agr ops o q q' → StepAt P ops o q' ((q'.giw U (fun S0 => S.getD S0)).put o.dst x none) := fun q' ha => stepAt_op (by rw [gval_agr ha]; exact hg) (hop q' ha)
                exact fin (x := x) (al := none) (V := U) (hv q (Agr.refl _ _ _)) (fun _ => ⟨x, none, U, _, rfl, hx.1, hUo, (fun hc => by rw [htk (x_calm hc hQ)]; rfl), hv, fun h hh hcv => absurd ⟨h, hh, hcv⟩ hcH⟩) (fun h => by have := htk (x_calm h hQ); subst this; exact ⟨hx.1, hUo, rfl, hv⟩) (hLd _) ((hinv.giw U _).put hx.1 _) h
              · cases h
        · obtain ⟨x, al, q', h, hop⟩ := lop_ok hT hC o q _ _ h
          have hns : softB o = false := by unfold softB; simp at hs hm; rw [hs, hm]; rfl
          have hnt : calmB o = false := by
            cases hc : calmB o with
            | false => rfl
            | true => rw [calm_soft hc] at hns; cases hns
          have hnv : isCallV o = false := by
            cases hl : isCallV o with
            | false => rfl
            | true =>
              unfold isCallV at hl
              split at hl
              · rename_i c ho'
                split at hl
                · rename_i x hb; simp [mildB, ho', hb] at hm
                · cases hl
              · cases hl
          have hnl : isLdS o = false := by
            cases hl : isLdS o with
            | false => rfl
            | true =>
              unfold isLdS at hl
              split at hl
              · rename_i t x ho'; simp [mildB, ho', hl] at hm
              · cases hl
          split at h
          · rename_i hx
            simp only [Bool.and_eq_true, Bool.or_eq_true] at hx
            have hst : startOk D q' = true := hx.2.resolve_left (by rw [hns]; simp)
            exact fin (x := x) (al := al) (V := []) (stepAt_op hg hop) (fun h => by rw [hns] at h; cases h) (fun h => by have := x_calm h (fun h => by rw [hnv] at h; cases h.2); rw [hnt] at this; cases this) (fun h _ hl => by rw [hnl] at hl; cases hl) ((start_inv hst).put hx.1 _) h
          · cases h
theorem Rel.draw {fr : Fr} {q : Q} {a : Act} {c : Cx} (h : Rel fr q a c) : Rel fr q a { c with w := { c.w with drawn := c.w.drawn + 1 } } := by
  obtain ⟨o, h⟩ := h
  have hext : Ext c { c with w := { c.w with drawn := c.w.drawn + 1 } } (fun _ => False) :=
    ⟨Nat.le_refl _, fun _ _ => rfl, fun _ _ h => h, fun _ _ _ => rfl, Nat.le_refl _, fun _ _ _ => rfl, fun _ _ _ _ h => h, (fun _ cur _ k _ h => ⟨cur, k, h, rfl⟩), rfl, rfl, rfl⟩
  exact ⟨o, h.len, h.alen, fun t ht => (h.env t ht).ext hext (by simp), h.al, ⟨h.sto.n, fun id hid => (h.sto.r id hid).ext hext (by simp), h.sto.bd⟩, fun i hi => (h.fly i hi).ext hext (by simp), h.flyl, h.sep,
    h.ext.trans hext (fun _ _ h => h.elim), h.own, h.df⟩
theorem drawn_ok' (hQui : qm = true → QuietC P C) (hqm : qm = true → hd = none) (hHid : ∀ h, hd = some h → HidC P h C) (hT : ∀ t ti, T t = some ti → tiOf P t = some ti) (hC : ∀ f, HSound P f (C f)) {is : List Nat} (hc : drawChk P ops qm hd.isSome is = true) {q : Q} {K : Q → Option R} {r : R}
    (h : (match startOk (dall ops) q with | true => runD T C ops (dall ops) hd (opsAt ops.toList is) q K | false => none) = some r) :
    ∃ qf, K qf = some r ∧ P.follows .mixedOrders = true ∧ ∀ (fr : Fr) (a : Act) (c : Cx), Rel fr q a c → ∀ Qp : Exit → Act → World → Prop, (∀ a' c', Rel fr qf a' c' → Qp .normal a' c'.w) → wpAny P .any ops Qp ops.size (Array.replicate ops.size false) a { c.w with drawn := c.w.drawn + 1 } := by
  simp only [drawChk, Bool.and_eq_true] at hc
  split at h
  · rename_i hs
    have hD : ∀ (j : Nat) (o : Oper) (d : Nat), ops[j]? = some o → o.dst = some d → d ∈ dall ops := fun j o d ho hd =>
      List.mem_flatMap.2 ⟨o, by simpa using Array.mem_of_getElem? ho, List.mem_append.2 (.inl (by simp [hd]))⟩
    have hU : ∀ (j : Nat) (o : Oper), ops[j]? = some o → ∀ t, t ∈ usedOf o → t ∈ dall ops := fun j o ho t ht =>
      List.mem_flatMap.2 ⟨o, by simpa using Array.mem_of_getElem? ho, List.mem_append.2 (.inr ht)⟩
    obtain ⟨qf, hK, hla⟩ := sch_ok hQui hqm hHid hT hC hD hU is _ q hc.2 (fun _ => start_inv hs) h
    refine ⟨qf, hK, hc.1.1, fun fr a c hr Qp hQ => ?_⟩
    have hlen : is.length = ops.size := Nat.eq_of_beq_eq_true hc.1.2
    rw [hlen] at hla
    have hr' : Rel fr q a { c with w := { c.w with drawn := c.w.drawn + 1 } } := hr.draw
    exact LA_wp _ _ _ hla hr' hQ
  · cases h

/-! ### Copies by which an owner is handed on -/
theorem flagL_get (tk : List (Nat × Nat)) : ∀ (os : List Oper) (k i : Nat), (flagL tk k os)[i]? = (os[i]?).map (flag1 (flagAt tk (k + i)))
  | [], k, i => by simp [flagL]
  | o :: os, k, 0 => by simp [flagL]
  | o :: os, k, i + 1 => by
    simp only [flagL, List.getElem?_cons_succ]
    rw [flagL_get tk os (k + 1) i, show k + 1 + i = k + (i + 1) by omega]
theorem flagL_len (tk : List (Nat × Nat)) : ∀ (os : List Oper) (k : Nat), (flagL tk k os).length = os.length
  | [], _ => rfl
  | o :: os, k => by simp [flagL, flagL_len tk os (k + 1)]
theorem flag_get (tk : List (Nat × Nat)) (ops : Array Oper) (i : Nat) : (flagA tk ops)[i]? = (ops[i]?).map (flag1 (flagAt tk i)) := by
  simp [flagA, flagL_get]
theorem flag_size (tk : List (Nat × Nat)) (ops : Array Oper) : (flagA tk ops).size = ops.size := by simp [flagA, flagL_len]
theorem flag1_cases (b : Nat) (o : Oper) : flag1 b o = o ∨ (∃ x, o.op = .move x ∧ flag1 b o = { o with op := .assign x }) ∨ (∃ n, flag1 b o = { o with type := n } ∧ ∀ (ρ : Operand → Value) (m : Nat), execOp ρ { o with type := m } = execOp ρ o) := by
  unfold flag1
  split
  · exact .inl rfl
  · split
    · rename_i x ho
      split
      · exact .inr (.inl ⟨x, ho, rfl⟩)
      · exact .inr (.inr ⟨_, rfl, fun ρ m => by simp only [execOp, ho]⟩)
    all_goals first
      | exact .inl rfl
      | (rename_i ho; exact .inr (.inr ⟨_, rfl, fun ρ m => by simp only [execOp, ho]⟩))
      | skip
    · rename_i cl ho
      obtain ⟨callee, as, ts⟩ := cl
      split
      · rename_i hb; replace hb : callee = .builtin .len := hb; subst hb; exact .inr (.inr ⟨_, rfl, fun ρ m => by simp [execOp, ho, resolve, invoke, builtin, Builtin.len_]⟩)
      · rename_i hb; replace hb : callee = .builtin .append := hb; subst hb; exact .inr (.inr ⟨_, rfl, fun ρ m => by simp [execOp, ho, resolve, invoke, builtin, Builtin.append_]⟩)
      · exact .inl rfl
theorem flag1_same (b : Nat) (o : Oper) : (flag1 b o).dst = o.dst ∧ (flag1 b o).guard = o.guard ∧ (flag1 b o).after = o.after ∧ ∀ (ρ : Operand → Value), execOp ρ (flag1 b o) = execOp ρ o := by
  rcases flag1_cases b o with h | ⟨x, ho, h⟩ | ⟨n, h, ho⟩
  · rw [h]; exact ⟨rfl, rfl, rfl, fun _ => rfl⟩
  · rw [h]; exact ⟨rfl, rfl, rfl, fun ρ => by simp [execOp, ho]⟩
  · rw [h]; exact ⟨rfl, rfl, rfl, fun ρ => ho ρ n⟩
theorem flag1_upon (b : Nat) (o : Oper) (a : Act) (K : Act → World → Prop) (Q : Exit → Act → World → Prop) (r : Result Next) : (flag1 b o).upon P a K Q r = o.upon P a K Q r := by
  rcases flag1_cases b o with h | ⟨x, ho, h⟩ | ⟨n, h, ho⟩
  · rw [h]
  · rw [h]; rfl
  · rw [h]; rfl
theorem flag1_wp (b : Nat) (o : Oper) (a : Act) (w : World) (K : Act → World → Prop) (Q : Exit → Act → World → Prop) : (flag1 b o).wp P a w K Q = o.wp P a w K Q := by
  unfold Oper.wp
  rw [(flag1_same b o).2.2.2, flag1_upon]
theorem flag1_asks (b : Nat) (o : Oper) (a : Act) (w : World) : (flag1 b o).asks P a w = o.asks P a w := by
  unfold Oper.asks
  rw [(flag1_same b o).2.2.2]
theorem flag_yielded (tk : List (Nat × Nat)) (ops : Array Oper) (tmps : Array Value) : yielded (flagA tk ops) tmps = yielded ops tmps := by
  funext j
  unfold yielded
  rw [flag_get]
  cases h : ops[j]? with
  | none => rfl
  | some o => simp [(flag1_same _ o).1]
theorem flag_wanted (b : Nat) (o : Oper) (y : Nat → Option Bool) : Region.wanted (flag1 b o) y = Region.wanted o y := by
  unfold Region.wanted
  rw [(flag1_same b o).2.1]
theorem flag_wpOp {tk : List (Nat × Nat)} {Q : Exit → Act → World → Prop} {i : Nat} {K K' : Act → World → Prop} {a : Act} {w : World} (hK : ∀ a w, K a w → K' a w) (h : wpOp P (flagA tk ops) Q i K a w) : wpOp P ops Q i K' a w := by
  refine wpOp_mono hK ?_
  unfold wpOp at *
  rw [flag_get] at h
  cases ho : ops[i]? with
  | none => rw [ho] at h; exact h
  | some o =>
    rw [ho] at h
    simp only [Option.map_some, flag_yielded, flag_wanted, flag1_wp, flag1_asks, (flag1_same _ o).1] at h
    exact h
theorem flag_wpOps {tk : List (Nat × Nat)} {Q : Exit → Act → World → Prop} : ∀ (is : List Nat) (a : Act) (w : World), wpOps P (flagA tk ops) Q is a w → wpOps P ops Q is a w
  | [], _, _, h => h
  | i :: is, a, w, h => by
    rw [wpOps_cons] at h ⊢
    exact flag_wpOp (fun a w => flag_wpOps is a w) h
theorem flag_ready (tk : List (Nat × Nat)) (listed : Array Bool) : Region.ready md (flagA tk ops) listed = Region.ready md ops listed := by
  unfold Region.ready
  rw [flag_size]
  congr 1
  funext i
  rw [flag_get]
  cases ops[i]? with
  | none => rfl
  | some o => simp [(flag1_same _ o).2.2.1]
theorem flag_wpAny {tk : List (Nat × Nat)} {Q : Exit → Act → World → Prop} : ∀ (n : Nat) (listed : Array Bool) (a : Act) (w : World), wpAny P md (flagA tk ops) Q n listed a w → wpAny P md ops Q n listed a w
  | 0, listed, a, w, h => ⟨by rw [← flag_ready tk]; exact h.1, h.2⟩
  | n + 1, listed, a, w, h => ⟨fun h0 => h.1 (by rw [flag_ready]; exact h0), fun i hi => flag_wpOp (fun a w => flag_wpAny n _ a w) (h.2 i (by rw [flag_ready]; exact hi))⟩
theorem drawn_ok (hQui : qm = true → QuietC P C) (hqm : qm = true → hd = none) (hHid : ∀ h, hd = some h → HidC P h C) (hT : ∀ t ti, T t = some ti → tiOf P t = some ti) (hC : ∀ f, HSound P f (C f)) {id : Nat} {tk : List (Nat × Nat)} {is : List Nat} (hc : drawChk P (flagA tk ops) qm hd.isSome is = true) {q : Q} {K : Q → Option R} {r : R}
    (h : (match startOk (dall (flagA tk ops)) q with | true => runD T C (flagA tk ops) (dall (flagA tk ops)) hd (opsAt (flagA tk ops).toList is) q K | false => none) = some r) :
    ∃ qf, K qf = some r ∧ ∀ (fr : Fr) (a : Act) (c : Cx), Rel fr q a c → ∀ Qp : Exit → Act → World → Prop, (∀ a' c', Rel fr qf a' c' → Qp .normal a' c'.w) → (Code.region id ops true).wp P Qp a c.w := by
  obtain ⟨qf, hK, hm, hw⟩ := drawn_ok' hQui hqm hHid hT hC hc h
  refine ⟨qf, hK, fun fr a c hr Qp hQ => wp_region_any hm ?_⟩
  have := flag_wpAny _ _ _ _ (hw fr a c hr Qp hQ)
  rwa [flag_size] at this
end
end Go.Lm
