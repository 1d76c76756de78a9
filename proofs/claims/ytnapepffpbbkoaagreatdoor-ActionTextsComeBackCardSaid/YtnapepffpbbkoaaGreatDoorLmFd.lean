/- Regions whose order is drawn: whatever order is drawn, the answer is that of one order. -/
import Derived.Test.YtnapepffpbbkoaaGreatDoorLmFc
namespace Go.Lm
section
variable {R : Type} {P : Program} {T : Nat → Option TI} {C : Nat → Hd R} {md : Region.Mode} {ops : Array Oper} {D : List Nat}

theorem Agr.refl (ops : Array Oper) (o : Oper) (q : Q) : Agr ops o q q := ⟨fun _ _ => rfl, fun _ _ => rfl, fun _ _ _ _ _ => rfl, fun _ _ _ _ _ => rfl, fun _ => rfl, fun _ _ => rfl⟩
theorem Agr.symm {o : Oper} {q q' : Q} (h : Agr ops o q q') : Agr ops o q' q :=
  ⟨fun x hx => (h.ev x hx).symm, fun x hx => (h.addr x hx).symm, fun x hx d p hd => (h.box x hx d p (by rw [← h.addr x hx]; exact hd)).symm, fun j w hg d hd => (h.gd j w hg d hd).symm, fun hs => (h.S hs).symm, fun t ht => (h.al t ht).symm⟩
theorem Agr.trans {o : Oper} {q q' q'' : Q} (h : Agr ops o q q') (h' : Agr ops o q' q'') : Agr ops o q q'' :=
  ⟨fun x hx => (h'.ev x hx).trans (h.ev x hx), fun x hx => (h'.addr x hx).trans (h.addr x hx), fun x hx d p hd => (h'.box x hx d p (by rw [h.addr x hx]; exact hd)).trans (h.box x hx d p hd),
    fun j w hg d hd => (h'.gd j w hg d hd).trans (h.gd j w hg d hd), fun hs => (h'.S hs).trans (h.S hs), fun t ht => (h'.al t ht).trans (h.al t ht)⟩

/-- No alias leads to a slot of D. -/
structure Inv (D : List Nat) (q : Q) : Prop where
  al : ∀ t b p, q.A.getD t none = some (b, p) → b ∉ D

theorem okX_al {x : LV} {b p : Nat} (h : okX D x (some (b, p)) = true) : b ∉ D := by
  simp only [okX, Bool.not_eq_true'] at h
  intro hb
  rw [List.contains_iff_mem.2 hb] at h
  exact absurd h (by simp)
theorem clearA_id {d : Nat} : ∀ {A : List (Option (Nat × Nat))}, (∀ t b p, A.getD t none = some (b, p) → b ≠ d) → clearA d A = A
  | [], _ => rfl
  | none :: A, h => by rw [clearA, clearA_id fun t b p hb => h (t + 1) b p (by simpa using hb)]
  | some (b, p) :: A, h => by
    have h0 := h 0 b p rfl
    rw [clearA, clearA_id fun t b p hb => h (t + 1) b p (by simpa using hb)]
    have : Nat.beq b d = false := by
      cases hb : Nat.beq b d
      · rfl
      · exact absurd (Nat.eq_of_beq_eq_true hb) h0
    rw [this]
theorem alOk_some {d b p : Nat} {al : Option (Nat × Nat)} (h : alOk d al = some (b, p)) : al = some (b, p) := by
  cases al with
  | none => cases h
  | some z =>
    obtain ⟨z1, z2⟩ := z
    simp only [alOk] at h
    split at h
    · cases h
    · exact h
theorem getD_set_or {α : Type} (l : List α) (d s : Nat) (v z : α) : (l.set d v).getD s z = l.getD s z ∨ (s = d ∧ (l.set d v).getD s z = v) := by
  by_cases h : s = d
  · subst h
    by_cases hl : s < l.length
    · right; simp [List.getD_eq_getElem?_getD, hl]
    · left; rw [List.set_eq_of_length_le (Nat.le_of_not_lt hl)]
  · left; simp only [List.getD_eq_getElem?_getD, List.getElem?_set_ne (Ne.symm h)]
theorem Inv.giv {q : Q} (h : Inv D q) (U : Acts) (S : Option (List LV)) : Inv D (q.giv U S) := ⟨h.al⟩
theorem Inv.put {q : Q} (h : Inv D q) {x : LV} {al : Option (Nat × Nat)} (hx : okX D x al = true) (d : Option Tmp) : Inv D (q.put d x al) := by
  cases d with
  | none => exact h
  | some d =>
    refine ⟨fun t b p hb => ?_⟩
    simp only [Q.put] at hb
    rcases getD_set_or (clearA d q.A) d t (alOk d al) none with h1 | ⟨_, h1⟩
    · rw [h1] at hb; exact h.al t b p (clearA_get d _ t b p hb).1
    · rw [h1] at hb; have := alOk_some hb; subst this; exact okX_al hx

theorem put_comm {q : Q} (h : Inv D q) {di dj : Option Tmp} {xi xj : LV} {ai aj : Option (Nat × Nat)} {V U : Acts} {S : Option (List LV)} (hi : okX D xi ai = true) (hj : okX D xj aj = true)
    (hdi : ∀ d, di = some d → d ∈ D ∧ d ∉ us U ∧ dj ≠ some d) (hdj : ∀ d, dj = some d → d ∈ D ∧ d ∉ us V) (hUV : ∀ t, t ∈ us U → t ∉ us V) :
    (((q.giv V none).put di xi ai).giv U S).put dj xj aj = (((q.giv U S).put dj xj aj).giv V none).put di xi ai := by
  cases di with
  | none =>
    cases dj with
    | none => simp only [Q.put, Q.giv, actAt_comm U V q.E hUV]; rfl
    | some d' => simp only [Q.put, Q.giv, actAt_comm U V q.E hUV, actAt_set V _ d' xj (hdj d' rfl).2]; rfl
  | some d =>
    obtain ⟨h1, h2, h3⟩ := hdi d rfl
    have e1 : clearA d q.A = q.A := clearA_id fun t b p hb e => h.al t b p hb (e ▸ h1)
    cases dj with
    | none =>
      simp only [Q.put, Q.giv, actAt_set U _ d xi h2, actAt_comm U V q.E hUV]; rfl
    | some d' =>
      have h4 : d' ≠ d := fun e => h3 (by rw [e])
      have h5 := (hdj d' rfl).1
      have h6 := (hdj d' rfl).2
      have e2 : clearA d' q.A = q.A := clearA_id fun t b p hb e => h.al t b p hb (e ▸ h5)
      have key : ∀ (z y : Nat) (al : Option (Nat × Nat)) (x : LV), y ∈ D → okX D x al = true → clearA y (q.A.set z (alOk z al)) = q.A.set z (alOk z al) := fun z y al x hy hx => clearA_id fun t b p hb e => by
        rcases getD_set_or q.A z t (alOk z al) none with h1 | ⟨_, h1⟩
        · rw [h1] at hb; exact h.al t b p hb (e ▸ hy)
        · rw [h1] at hb; have := alOk_some hb; subst this; exact okX_al hx (e ▸ hy)
      simp only [Q.put, Q.giv, actAt_set U _ d xi h2, actAt_set V _ d' xj h6, actAt_comm U V q.E hUV, e1, e2, key d d' ai xi h5 hi, key d' d aj xj h1 hj, Option.getD_none]
      rw [List.set_comm _ _ h4, List.set_comm _ _ h4]

theorem looks_tmp {o : Oper} {t : Nat} (h : Operand.tmp t ∈ o.op.operands.toList) : t ∈ o.looksAt ops :=
  List.mem_append.2 (.inl (List.mem_filterMap.2 ⟨_, h, rfl⟩))
theorem looks_gd {o : Oper} {j : Nat} {w : Bool} {d : Nat} (hg : o.guard = some (j, w)) (hd : (ops[j]?).bind (·.dst) = some d) : d ∈ o.looksAt ops :=
  List.mem_append.2 (.inr (by simp only [hg, hd]; simp))
/-- What another operation turns, an operation that is apart from it does not see. -/
theorem agr_frame {o : Oper} {q : Q} (h : Inv D q) {d : Option Tmp} {x : LV} {al : Option (Nat × Nat)} {U : Acts} {S : Option (List LV)} (hU : ∀ t, t ∈ us U → t ∈ D ∧ t ∉ o.looksAt ops) (hd : ∀ t, d = some t → t ∈ D ∧ t ∉ o.looksAt ops)
    (hS : takeB o = true ∨ S = none) : Agr ops o q ((q.giv U S).put d x al) := by
  have hE : ∀ t, t ∉ us U → (∀ s, d = some s → t ≠ s) → ((q.giv U S).put d x al).E.getD t .any = q.E.getD t .any := fun t h1 h2 => by
    cases d with
    | none => exact actAt_ne U q.E t h1
    | some s =>
      show ((actAt U q.E).set s x).getD t .any = _
      rcases getD_set_or (actAt U q.E) s t x .any with h3 | ⟨h3, _⟩
      · rw [h3]; exact actAt_ne U q.E t h1
      · exact absurd h3 (h2 s rfl)
  have hL : ∀ t, t ∈ o.looksAt ops → ((q.giv U S).put d x al).E.getD t .any = q.E.getD t .any := fun t ht => hE t (fun hu => (hU t hu).2 ht) fun s hs e => (hd s hs).2 (e ▸ ht)
  have hA : ∀ t, t ∈ o.looksAt ops → ((q.giv U S).put d x al).A.getD t none = q.A.getD t none := fun t ht => by
    cases d with
    | none => rfl
    | some s =>
      show ((clearA s q.A).set s (alOk s al)).getD t none = _
      rw [clearA_id fun t b p hb e => h.al t b p hb (e ▸ (hd s rfl).1)]
      rcases getD_set_or q.A s t (alOk s al) none with h3 | ⟨h3, _⟩
      · exact h3
      · exact absurd (h3 ▸ ht) (hd s rfl).2
  refine ⟨fun y hy => ?_, fun y hy => ?_, fun y hy b p hb => ?_, fun j w hg s hs => hL s (looks_gd hg hs), fun hs => ?_, fun t ht => hA t (looks_tmp ht)⟩
  · cases y with
    | tmp t => exact hL t (looks_tmp hy)
    | _ => rfl
  · cases y with
    | tmp t => simp only [Q.addr, hA t (looks_tmp hy), hL t (looks_tmp hy)]
    | _ => rfl
  · have hb' : b ∉ us U ∧ ∀ s, d = some s → b ≠ s := by
      cases y with
      | tmp t =>
        simp only [Q.addr] at hb
        split at hb
        · rename_i z hz
          cases hb
          have h1 := h.al t b p hz
          exact ⟨fun hu => h1 (hU b hu).1, fun s hs e => h1 (e ▸ (hd s hs).1)⟩
        · split at hb
          · cases hb
            have h1 := looks_tmp (ops := ops) hy
            exact ⟨fun hu => (hU _ hu).2 h1, fun s hs e => (hd s hs).2 (e ▸ h1)⟩
          · cases hb
      | _ => cases hb
    unfold boxAt
    rw [hE b hb'.1 hb'.2]
  · rcases hS with h1 | h1
    · rw [h1] at hs; cases hs
    · subst h1; cases d <;> rfl

def StepAt (P : Program) (ops : Array Oper) (o : Oper) (q q1 : Q) : Prop :=
  ∀ (fr : Fr) (a : Act) (c : Cx), Rel fr q a c → ∀ (next : Act → World → Prop) (Qp : Exit → Act → World → Prop), (∀ a' c', Rel fr q1 a' c' → next a' c'.w) →
    if Region.wanted o (yielded ops a.tmps) = true then o.wp P a c.w next Qp else next (a.put o.dst undef) c.w
def LStep (P : Program) (ops : Array Oper) (D : List Nat) (o : Oper) (q q1 : Q) : Prop :=
  ∃ x al U S, q1 = (q.giv U S).put o.dst x al ∧ okX D x al = true ∧ (∀ t, t ∈ us U → t ∈ usedOf o) ∧ (calmB o = true → S = none) ∧ ∀ q', Agr ops o q q' → StepAt P ops o q' ((q'.giv U S).put o.dst x al)
def LA (P : Program) (md : Region.Mode) (ops : Array Oper) (D : List Nat) (qf : Q) : Nat → Array Bool → Q → Prop
  | 0, listed, q => Region.ready md ops listed = [] ∧ q = qf
  | n + 1, listed, q => (Region.ready md ops listed = [] → q = qf) ∧
    ∀ i ∈ Region.ready md ops listed, ∃ o, ops[i]? = some o ∧ ∃ q1, StepAt P ops o q q1 ∧ (softB o = true → LStep P ops D o q q1) ∧ LA P md ops D qf n (listed.setIfInBounds i true) q1

theorem LA_wp {qf : Q} : ∀ (n : Nat) (listed : Array Bool) (q : Q), LA P md ops D qf n listed q → ∀ {fr : Fr} {a : Act} {c : Cx}, Rel fr q a c → ∀ {Qp : Exit → Act → World → Prop}, (∀ a' c', Rel fr qf a' c' → Qp .normal a' c'.w) → wpAny P md ops Qp n listed a c.w
  | 0, listed, q, h, fr, a, c, hr, Qp, hQ => ⟨h.1, hQ a c (h.2 ▸ hr)⟩
  | n + 1, listed, q, h, fr, a, c, hr, Qp, hQ => by
    refine ⟨fun h0 => hQ a c (h.1 h0 ▸ hr), fun i hi => ?_⟩
    obtain ⟨o, ho, q1, hs, _, hla⟩ := h.2 i hi
    have := hs fr a c hr (wpAny P md ops Qp n (listed.setIfInBounds i true)) Qp (fun a' c' hr' => LA_wp n _ q1 hla hr' hQ)
    unfold wpOp
    simp only [ho]
    split
    · rename_i hw; rw [if_pos hw] at this; exact .inl this
    · rename_i hw; rw [if_neg hw] at this; exact this

theorem giv_nil (q : Q) : q.giv [] none = q := rfl

theorem used_looks {o : Oper} {t : Nat} (h : t ∈ usedOf o) : t ∈ o.looksAt ops := by
  have key : t ∈ tmpsOf o.op.operands.toList → t ∈ o.looksAt ops := fun h => by
    obtain ⟨y, hy, hy'⟩ := List.mem_filterMap.1 h
    cases y <;> simp at hy'
    subst hy'
    exact looks_tmp hy
  unfold usedOf at h
  split at h
  · rename_i x ho; exact key (by rw [ho]; simpa [Op.operands] using h)
  · rename_i x y ho
    split at h
    · refine key ?_
      rw [ho]
      cases x <;> simp only [tmpsOf, List.filterMap_cons, List.filterMap_nil, List.mem_cons, List.not_mem_nil, or_false] at h
      subst h
      exact List.mem_filterMap.2 ⟨.tmp t, by simp [Op.operands], rfl⟩
    split at h
    · refine key ?_
      rw [ho]
      cases y <;> simp only [tmpsOf, List.filterMap_cons, List.filterMap_nil, List.mem_cons, List.not_mem_nil, or_false] at h
      subst h
      exact List.mem_filterMap.2 ⟨.tmp t, by simp [Op.operands], rfl⟩
    · cases h
  · split at h
    · cases h
    · exact key h
  · cases h
theorem LA_first {qf : Q} {i : Nat} {oi : Oper} {xi : LV} {ai : Option (Nat × Nat)} {V : Acts} {B : List Nat} (hi : ops[i]? = some oi) (_ : calmB oi = true) (hV : ∀ t, t ∈ us V → t ∈ usedOf oi) (hD : ∀ (j : Nat) (o : Oper) (d : Nat), ops[j]? = some o → o.dst = some d → d ∈ D) (hU : ∀ (j : Nat) (o : Oper), ops[j]? = some o → ∀ t, t ∈ usedOf o → t ∈ D) (hx : okX D xi ai = true)
    (hB : ∀ b, b ∈ B → ∃ ob, ops[b]? = some ob ∧ ∃ e ∈ ob.after, Region.binds md e = true ∧ (e.on = i ∨ e.on ∈ B)) :
    ∀ (n : Nat) (listed : Array Bool) (q : Q), (∀ b, b ∈ B → listed.getD b true = false) →
      (∀ j oj, ops[j]? = some oj → j ≠ i → listed.getD j true = false → j ∉ B → oi.apart ops oj = true ∧ softB oj = true ∧ (∀ t, t ∈ usedOf oj → t ∉ oi.looksAt ops) ∧ (∀ t, t ∈ usedOf oi → t ∉ oj.looksAt ops ∧ oj.dst ≠ some t) ∧ (takeB oi = true ∨ calmB oj = true)) →
      i ∈ Region.ready md ops listed → Inv D q → (∀ q', Agr ops oi q q' → StepAt P ops oi q' ((q'.giv V none).put oi.dst xi ai)) →
      LA P md ops D qf n (listed.setIfInBounds i true) ((q.giv V none).put oi.dst xi ai) → LA P md ops D qf (n + 1) listed q := by
  intro n
  induction n with
  | zero =>
    intro listed q hBl hfree hr hinv hv H
    refine ⟨fun h => (by rw [h] at hr; cases hr), fun j hj => ?_⟩
    by_cases hji : j = i
    · subst hji; exact ⟨oi, hi, _, hv q (Agr.refl _ _ _), fun _ => ⟨xi, ai, V, none, rfl, hx, hV, fun _ => rfl, fun q' ha => hv q' ha⟩, H⟩
    · have := ready_mono hj hji
      rw [H.1] at this
      cases this
  | succ n ih =>
    intro listed q hBl hfree hr hinv hv H
    refine ⟨fun h => (by rw [h] at hr; cases hr), fun j hj => ?_⟩
    by_cases hji : j = i
    · subst hji; exact ⟨oi, hi, _, hv q (Agr.refl _ _ _), fun _ => ⟨xi, ai, V, none, rfl, hx, hV, fun _ => rfl, fun q' ha => hv q' ha⟩, H⟩
    · obtain ⟨hjun, oj, hoj, hall⟩ := mem_ready.1 hj
      have unl : ∀ k, listed.getD k true = false → ∀ e ∈ oj.after, Region.binds md e = true → e.on ≠ k := fun k h0 e he hb heq => by
        have h1 := hall e he hb
        rw [heq] at h1
        rcases Nat.lt_or_ge k listed.size with h' | h'
        · simp [h'] at h0 h1; rw [h0] at h1; cases h1
        · simp [Array.getElem?_eq_none h'] at h1
      have hjB : j ∉ B := fun hb => by
        obtain ⟨ob, hob, e, he, hbd, hor⟩ := hB j hb
        rw [hoj] at hob; cases hob
        rcases hor with h | h
        · exact unl i (mem_ready.1 hr).1 e he hbd h
        · exact unl e.on (hBl _ h) e he hbd rfl
      obtain ⟨hap, hsoft, hun, hvn, hcm⟩ := hfree j oj hoj hji hjun hjB
      obtain ⟨a1, a2, a3⟩ := Oper.apart_spec hap
      obtain ⟨oj', hoj', q1, _, hl, hla⟩ := H.2 j (ready_mono hj hji)
      rw [hoj] at hoj'
      cases hoj'
      obtain ⟨x, al, U, S, hq1, hxo, hUo, hSn, hloc⟩ := hl hsoft
      -- the other one sees nothing of the first one
      have agj : Agr ops oj q ((q.giv V none).put oi.dst xi ai) := agr_frame hinv (fun t ht => ⟨hU i oi hi t (hV t ht), (hvn t (hV t ht)).1⟩) (fun t ht => ⟨hD i oi t hi ht, a1 t ht⟩) (.inr rfl)
      have agi : Agr ops oi q ((q.giv U S).put oj.dst x al) := agr_frame hinv (fun t ht => ⟨hU j oj hoj t (hUo t ht), hun t (hUo t ht)⟩) (fun t ht => ⟨hD j oj t hoj ht, a3 t ht⟩) (hcm.imp id hSn)
      have hloc' : ∀ q', Agr ops oj q q' → StepAt P ops oj q' ((q'.giv U S).put oj.dst x al) := fun q' ha => hloc q' (agj.symm.trans ha)
      have hlk : ∀ t, t ∈ us U → t ∈ oj.looksAt ops := fun t ht => used_looks (hUo t ht)
      refine ⟨oj, hoj, _, hloc' q (Agr.refl _ _ _), fun _ => ⟨x, al, U, S, rfl, hxo, hUo, hSn, hloc'⟩, ?_⟩
      refine ih (listed.setIfInBounds j true) _ (fun b hb => by
        have hne : j ≠ b := fun e => hjB (by rw [e]; exact hb)
        rw [getD_set_ne true hne]; exact hBl b hb) (fun k ok hk hki hkun hno => ?_) (ready_mono hr (Ne.symm hji)) ((hinv.giv U S).put hxo oj.dst) (fun q' ha => hv q' (agi.trans ha)) ?_
      · refine hfree k ok hk hki ?_ hno
        by_cases hjk : j = k
        · subst hjk; exact hjun
        · rw [getD_set_ne true hjk] at hkun; exact hkun
      · rw [Array.setIfInBounds_comm _ _ hji]
        rw [← put_comm hinv hx hxo (fun d hd => ⟨hD i oi d hi hd, fun hu => a1 d hd (hlk d hu), a2 d hd⟩) (fun d hd => ⟨hD j oj d hoj hd, fun hu => (hvn d (hV d hu)).2 hd⟩) (fun t ht hv => (hvn t (hV t hv)).1 (hlk t ht)), ← hq1]
        exact hla

/-! ### One order, looked over by a program -/
/-- What cannot come before i: each hangs on i, or on another of them. -/
def blkStep (md : Region.Mode) (ops : Array Oper) (listed : Array Bool) (i : Nat) (B : List Nat) (j : Nat) : List Nat := match !(Nat.beq j i) && !(listed.getD j true) && (match ops[j]? with
    | some oj => oj.after.any (fun e => Region.binds md e && (Nat.beq e.on i || B.any (Nat.beq e.on)))
    | none => false) with
  | true => j :: B
  | false => B
def blk (md : Region.Mode) (ops : Array Oper) (listed : Array Bool) (i : Nat) : List Nat := (List.range ops.size).foldl (blkStep md ops listed i) []
def blkOk (md : Region.Mode) (ops : Array Oper) (listed : Array Bool) (i : Nat) (B : List Nat) : Bool := B.all fun b => !(listed.getD b true) && match ops[b]? with
  | some ob => ob.after.any fun e => Region.binds md e && (Nat.beq e.on i || B.any (Nat.beq e.on))
  | none => false
def free2 (ops : Array Oper) (listed : Array Bool) (oi : Oper) (i : Nat) (B : List Nat) : Bool :=
  (List.range ops.size).all fun j => Nat.beq j i || listed.getD j true || B.any (Nat.beq j) || match ops[j]? with
    | some oj => oi.apart ops oj && softB oj && ((usedOf oj).all fun t => !((oi.looksAt ops).contains t)) && ((usedOf oi).all fun t => !((oj.looksAt ops).contains t) && !(oj.dst == some t)) && (takeB oi || calmB oj)
    | none => true
def free3 (md : Region.Mode) (ops : Array Oper) (listed : Array Bool) (oi : Oper) (i : Nat) (B : List Nat) : Bool := blkOk md ops listed i B && free2 ops listed oi i B
theorem any_beq {B : List Nat} {j : Nat} (h : B.any (Nat.beq j) = true) : j ∈ B := by
  obtain ⟨b, hb, e⟩ := List.any_eq_true.1 h
  exact Nat.eq_of_beq_eq_true e ▸ hb
def chkSch (md : Region.Mode) (ops : Array Oper) : List Nat → Array Bool → Bool
  | [], listed => (Region.ready md ops listed).isEmpty
  | i :: is, listed => (match ops[i]? with
    | some o => (match Region.ready md ops listed with | [k] => Nat.beq k i | _ => false) || (calmB o && (Region.ready md ops listed).contains i && free3 md ops listed o i (blk md ops listed i))
    | none => false) && chkSch md ops is (listed.setIfInBounds i true)
def drawChk (P : Program) (ops : Array Oper) (is : List Nat) : Bool := P.follows .mixedOrders && Nat.beq is.length ops.size && chkSch .any ops is (Array.replicate ops.size false)

def gval (ops : Array Oper) (q : Q) (o : Oper) : Option Bool := match o.guard with
  | none => some true
  | some (j, want) => match (ops[j]?).bind (·.dst) with
    | some d => (match q.E.getD d .any with
      | .bool b => some (match b with | true => want | false => !want)
      | .und => some false
      | _ => none)
    | none => none
theorem set_same (E : List LV) (d : Nat) (v : LV) (h : E.getD d .any = v) : E.set d v = E := by
  rcases Nat.lt_or_ge d E.length with h1 | h1
  · have : E[d] = v := by simpa [List.getD_eq_getElem?_getD, h1] using h
    rw [← this]; exact List.set_getElem_self h1
  · exact List.set_eq_of_length_le h1
theorem wanted_gval {o : Oper} {q : Q} {K : Bool → Q → Option R} {r : R} (h : wanted ops q o K = some r) : ∃ b, gval ops q o = some b ∧ K b q = some r := by
  unfold wanted at h
  simp only [setK_eq] at h
  unfold gval
  split at h
  · rename_i hg
    simp only [hg]
    exact ⟨true, rfl, h⟩
  · rename_i j want hg
    simp only [hg]
    split at h
    · rename_i d hd
      simp only [hd]
      split at h
      · rename_i b hb
        simp only [hb]
        rcases ifB_some h with ⟨rfl, h⟩ | ⟨rfl, h⟩
        · rw [set_same q.E d _ hb] at h; exact ⟨_, rfl, h⟩
        · rw [set_same q.E d _ hb] at h; exact ⟨_, rfl, h⟩
      · rename_i hb
        simp only [hb]
        exact ⟨_, rfl, h⟩
      · cases h
    · cases h
theorem gval_agr {o : Oper} {q q' : Q} (h : Agr ops o q q') : gval ops q' o = gval ops q o := by
  unfold gval
  split
  · rfl
  · rename_i j want hg
    split
    · rename_i d hd
      rw [h.gd j want hg d hd]
    · rfl
theorem gval_ok {o : Oper} {q : Q} {b : Bool} (h : gval ops q o = some b) {fr : Fr} {a : Act} {c : Cx} (hr : Rel fr q a c) : Region.wanted o (yielded ops a.tmps) = b := by
  have hw : wanted ops q o (fun b _ => some b) = some b := by
    unfold gval at h
    unfold wanted
    split at h
    · rename_i hg; simp only [hg]; exact h
    · rename_i j want hg
      simp only [hg]
      split at h
      · rename_i d hd
        simp only [hd]
        split at h
        · rename_i b' hb
          simp only [hb]
          simp only [setK_eq]
          cases b' <;> exact h
        · rename_i hb; simp only [hb]; exact h
        · cases h
      · cases h
  obtain ⟨b1, q1, h1, h2⟩ := wanted_some hw
  cases h1
  exact (h2 hr).2
theorem stepAt_op {o : Oper} {q q1 : Q} {x : LV} {al : Option (Nat × Nat)} (hg : gval ops q o = some true) (h : OpOk P q o x al q1) : StepAt P ops o q (q1.put o.dst x al) := by
  intro fr a c hr next Qp hn
  rw [if_pos (gval_ok hg hr)]
  exact h fr a c hr next Qp fun c' v hx hal => hn _ _ (Rel.put hx o.dst al hal)
theorem stepAt_no {o : Oper} {q : Q} (hg : gval ops q o = some false) : StepAt P ops o q (q.put o.dst .und none) := by
  intro fr a c hr next Qp hn
  rw [if_neg (by rw [gval_ok hg hr]; simp)]
  exact hn _ _ (Rel.put (RelO.flyUnd hr) o.dst none (fun _ _ h => by cases h))

theorem start_inv {q : Q} (h : startOk D q = true) : Inv D q := by
  simp only [startOk, List.all_eq_true] at h
  refine ⟨fun t b p hb hd => ?_⟩
  have hm : (some (b, p) : Option (Nat × Nat)) ∈ q.A := by
    simp only [List.getD_eq_getElem?_getD] at hb
    cases hz : q.A[t]? with
    | none => rw [hz] at hb; cases hb
    | some z => rw [hz] at hb; simp only [Option.getD_some] at hb; rw [← hb]; exact List.mem_of_getElem? hz
  have := h _ hm
  simp only [Bool.not_eq_true'] at this
  rw [List.contains_iff_mem.2 hd] at this
  cases this
theorem calm_soft {o : Oper} (h : calmB o = true) : softB o = true := by
  unfold calmB at h
  unfold softB
  rw [Bool.or_eq_true] at h ⊢
  rcases h with h | h
  · unfold takeB at h
    rw [Bool.or_eq_true] at h
    rcases h with h | h
    · exact .inl h
    · right
      split at h
      · rename_i x ho; simp only [mildB, ho]
      · cases h
  · right
    split at h
    · rename_i t x ho
      simp only [Bool.and_eq_true] at h
      simp only [mildB, ho]; exact h.1
    · rename_i ho
      simp only [mildB, ho]
      rw [Nat.eq_of_beq_eq_true h]; rfl
    · rename_i ho; simp only [mildB, ho]
    · rename_i cl ho
      split at h
      · rename_i hb; simp only [mildB, ho, hb]; exact h
      · cases h
    · cases h
theorem sch_ok (hT : ∀ t ti, T t = some ti → tiOf P t = some ti) (hC : ∀ f, HSound P f (C f)) (hD : ∀ (j : Nat) (o : Oper) (d : Nat), ops[j]? = some o → o.dst = some d → d ∈ D) (hU : ∀ (j : Nat) (o : Oper), ops[j]? = some o → ∀ t, t ∈ usedOf o → t ∈ D)
    {K : Q → Option R} {r : R} : ∀ (is : List Nat) (listed : Array Bool) (q : Q), chkSch md ops is listed = true → (is ≠ [] → Inv D q) → runD T C ops D (opsAt ops.toList is) q K = some r → ∃ qf, K qf = some r ∧ LA P md ops D qf is.length listed q := by
  intro is
  induction is with
  | nil =>
    intro listed q hc _ h
    exact ⟨q, h, by simpa [chkSch] using hc, rfl⟩
  | cons i is ih =>
    intro listed q hc hinv h
    have hinv := hinv (by simp)
    simp only [chkSch, Bool.and_eq_true] at hc
    obtain ⟨hc1, hc2⟩ := hc
    split at hc1
    rotate_left
    · cases hc1
    rename_i o ho
    have hol : ops.toList[i]? = some o := by simpa using ho
    simp only [opsAt, hol, runD, Q.putK_eq] at h
    obtain ⟨b, hg, h⟩ := wanted_gval h
    -- how the step is used
    have fin : ∀ {x : LV} {al : Option (Nat × Nat)} {q1 : Q} {V : Acts}, StepAt P ops o q q1 → (softB o = true → LStep P ops D o q q1) → (calmB o = true → okX D x al = true ∧ (∀ t, t ∈ us V → t ∈ usedOf o) ∧ q1 = (q.giv V none).put o.dst x al ∧ ∀ q', Agr ops o q q' → StepAt P ops o q' ((q'.giv V none).put o.dst x al)) →
        Inv D q1 → runD T C ops D (opsAt ops.toList is) q1 K = some r → ∃ qf, K qf = some r ∧ LA P md ops D qf (i :: is).length listed q := by
      intro x al q1 V h1 h2 h3 h4 h5
      obtain ⟨qf, hK, hla⟩ := ih (listed.setIfInBounds i true) q1 hc2 (fun _ => h4) h5
      refine ⟨qf, hK, ?_⟩
      rw [Bool.or_eq_true] at hc1
      rcases hc1 with hk | hc
      · split at hk
        · rename_i k hr
          have := Nat.eq_of_beq_eq_true hk
          subst this
          refine (show LA P md ops D qf (is.length + 1) listed q from ⟨fun h0 => (by rw [hr] at h0; cases h0), fun j hj => ?_⟩)
          rw [hr] at hj
          simp only [List.mem_cons, List.not_mem_nil, or_false] at hj
          subst hj
          exact ⟨o, ho, q1, h1, h2, hla⟩
        · cases hk
      · simp only [Bool.and_eq_true, free3] at hc
        obtain ⟨⟨hs, hrd⟩, hbk, hfr⟩ := hc
        obtain ⟨hx, hV, rfl, hv⟩ := h3 hs
        generalize blk md ops listed i = B at hbk hfr
        simp only [blkOk, List.all_eq_true, Bool.and_eq_true, Bool.not_eq_true'] at hbk
        refine LA_first (B := B) ho hs hV hD hU hx (fun b hb => ?_) is.length listed q (fun b hb => (hbk b hb).1) (fun j oj hj hji hun hjB => ?_) (by simpa using hrd) hinv hv hla
        · have := (hbk b hb).2
          split at this
          · rename_i ob hob
            obtain ⟨e, he, hbd⟩ := Array.any_eq_true'.1 this
            simp only [Bool.and_eq_true, Bool.or_eq_true] at hbd
            exact ⟨ob, hob, e, he, hbd.1, hbd.2.imp (fun h => Nat.eq_of_beq_eq_true h) any_beq⟩
          · cases this
        · simp only [free2, List.all_eq_true, List.mem_range] at hfr
          have := hfr j (Array.getElem?_eq_some_iff.1 hj).1
          simp only [hj, Bool.or_eq_true, hun, Bool.false_eq_true, or_false] at this
          rcases this with (h | h) | h
          · exact absurd (Nat.eq_of_beq_eq_true h) hji
          · exact absurd (any_beq h) hjB
          · simp only [Bool.and_eq_true, List.all_eq_true, Bool.not_eq_true', Bool.or_eq_true] at h
            exact ⟨h.1.1.1.1, h.1.1.1.2, (fun t ht hl => by have := h.1.1.2 t ht; rw [List.contains_iff_mem.2 hl] at this; cases this),
              (fun t ht => ⟨(fun hl => by have := (h.1.2 t ht).1; rw [List.contains_iff_mem.2 hl] at this; cases this), (fun hl => by have := (h.1.2 t ht).2; rw [hl] at this; simp at this)⟩), h.2⟩
    cases b with
    | false =>
      simp only at h
      have hv : ∀ q', Agr ops o q q' → StepAt P ops o q' (q'.put o.dst .und none) := fun q' ha => stepAt_no (by rw [gval_agr ha]; exact hg)
      exact fin (x := .und) (al := none) (V := []) (hv q (Agr.refl _ _ _)) (fun _ => ⟨.und, none, [], none, rfl, rfl, (fun _ h => by cases h), (fun _ => rfl), hv⟩) (fun _ => ⟨rfl, (fun _ h => by cases h), rfl, hv⟩) (hinv.put rfl _) h
    | true =>
      simp only at h
      by_cases hs : stillB o = true
      · obtain ⟨x, al, h, hloc⟩ := still_loc hs (Agr.refl ops o q) h
        split at h
        · rename_i hx
          simp only [Bool.and_eq_true] at hx
          have hv : ∀ q', Agr ops o q q' → StepAt P ops o q' (q'.put o.dst x al) := fun q' ha => by
            have e1 := hloc (R' := LV × Option (Nat × Nat)) (fun _ _ _ _ => none) fun x al _ => some (x, al)
            obtain ⟨x', al', h1, h2⟩ := still_loc hs ha e1
            simp only [Option.some.injEq, Prod.mk.injEq] at h1
            obtain ⟨rfl, rfl⟩ := h1
            have e2 := h2 (R' := LV × Option (Nat × Nat) × Q) (fun _ _ _ _ => none) fun x al q => some (x, al, q)
            obtain ⟨x2, al2, q2, h3, h4⟩ := lop_ok hT (fun f => noneHd f) o q' _ _ e2
            simp only [Option.some.injEq, Prod.mk.injEq] at h3
            obtain ⟨rfl, rfl, rfl⟩ := h3
            exact stepAt_op (by rw [gval_agr ha]; exact hg) h4
          exact fin (V := []) (hv q (Agr.refl _ _ _)) (fun _ => ⟨x, al, [], none, rfl, hx.1, (fun _ h => by cases h), (fun _ => rfl), hv⟩) (fun _ => ⟨hx.1, (fun _ h => by cases h), rfl, hv⟩) (hinv.put hx.1 _) h
        · cases h
      · by_cases hm : mildB o = true
        · obtain ⟨x, U, S, h, htk, hUo, hop⟩ := mild_loc hT hC (ops := ops) hm h
          split at h
          · rename_i hx
            simp only [Bool.and_eq_true] at hx
            have hv : ∀ q', Agr ops o q q' → StepAt P ops o q' ((q'.giv U S).put o.dst x none) := fun q' ha => stepAt_op (by rw [gval_agr ha]; exact hg) (hop q' ha)
            exact fin (x := x) (al := none) (V := U) (hv q (Agr.refl _ _ _)) (fun _ => ⟨x, none, U, S, rfl, hx.1, hUo, htk, hv⟩) (fun h => by have := htk h; subst this; exact ⟨hx.1, hUo, rfl, hv⟩) ((hinv.giv U S).put hx.1 _) h
          · cases h
        · obtain ⟨x, al, q', h, hop⟩ := lop_ok hT hC o q _ _ h
          have hns : softB o = false := by unfold softB; simp at hs hm; rw [hs, hm]; rfl
          have hnt : calmB o = false := by
            cases hc : calmB o with
            | false => rfl
            | true => rw [calm_soft hc] at hns; cases hns
          split at h
          · rename_i hx
            simp only [Bool.and_eq_true, Bool.or_eq_true] at hx
            have hst : startOk D q' = true := hx.2.resolve_left (by rw [hns]; simp)
            exact fin (x := x) (al := al) (V := []) (stepAt_op hg hop) (fun h => by rw [hns] at h; cases h) (fun h => by rw [hnt] at h; cases h) ((start_inv hst).put hx.1 _) h
          · cases h
theorem Rel.draw {fr : Fr} {q : Q} {a : Act} {c : Cx} (h : Rel fr q a c) : Rel fr q a { c with w := { c.w with drawn := c.w.drawn + 1 } } := by
  obtain ⟨o, h⟩ := h
  have hext : Ext c { c with w := { c.w with drawn := c.w.drawn + 1 } } (fun _ => False) :=
    ⟨Nat.le_refl _, fun _ _ => rfl, fun _ _ h => h, fun _ _ _ => rfl, Nat.le_refl _, fun _ _ _ => rfl, fun _ _ _ _ h => h, rfl, rfl, rfl⟩
  exact ⟨o, h.len, h.alen, fun t ht => (h.env t ht).ext hext (by simp), h.al, ⟨h.sto.n, fun id hid => (h.sto.r id hid).ext hext (by simp), h.sto.bd⟩, fun i hi => (h.fly i hi).ext hext (by simp), h.flyl, h.sep,
    h.ext.trans hext (fun _ _ h => h.elim), h.own, h.df⟩
theorem drawn_ok' (hT : ∀ t ti, T t = some ti → tiOf P t = some ti) (hC : ∀ f, HSound P f (C f)) {is : List Nat} (hc : drawChk P ops is = true) {q : Q} {K : Q → Option R} {r : R}
    (h : (match startOk (dall ops) q with | true => runD T C ops (dall ops) (opsAt ops.toList is) q K | false => none) = some r) :
    ∃ qf, K qf = some r ∧ P.follows .mixedOrders = true ∧ ∀ (fr : Fr) (a : Act) (c : Cx), Rel fr q a c → ∀ Qp : Exit → Act → World → Prop, (∀ a' c', Rel fr qf a' c' → Qp .normal a' c'.w) → wpAny P .any ops Qp ops.size (Array.replicate ops.size false) a { c.w with drawn := c.w.drawn + 1 } := by
  simp only [drawChk, Bool.and_eq_true] at hc
  split at h
  · rename_i hs
    have hD : ∀ (j : Nat) (o : Oper) (d : Nat), ops[j]? = some o → o.dst = some d → d ∈ dall ops := fun j o d ho hd =>
      List.mem_flatMap.2 ⟨o, by simpa using Array.mem_of_getElem? ho, List.mem_append.2 (.inl (by simp [hd]))⟩
    have hU : ∀ (j : Nat) (o : Oper), ops[j]? = some o → ∀ t, t ∈ usedOf o → t ∈ dall ops := fun j o ho t ht =>
      List.mem_flatMap.2 ⟨o, by simpa using Array.mem_of_getElem? ho, List.mem_append.2 (.inr ht)⟩
    obtain ⟨qf, hK, hla⟩ := sch_ok hT hC hD hU is _ q hc.2 (fun _ => start_inv hs) h
    refine ⟨qf, hK, hc.1.1, fun fr a c hr Qp hQ => ?_⟩
    have hlen : is.length = ops.size := Nat.eq_of_beq_eq_true hc.1.2
    rw [hlen] at hla
    have hr' : Rel fr q a { c with w := { c.w with drawn := c.w.drawn + 1 } } := hr.draw
    exact LA_wp _ _ _ hla hr' hQ
  · cases h

/-! ### Copies by which an owner is handed on -/
theorem flagL_get (tk : List (Nat × Nat)) : ∀ (os : List Oper) (k i : Nat), (flagL tk k os)[i]? = (os[i]?).map (flag1 (flagAt tk (k + i)))
  | [], k, i => by simp [flagL]
  | o :: os, k, 0 => by simp [flagL]
  | o :: os, k, i + 1 => by
    simp only [flagL, List.getElem?_cons_succ]
    rw [flagL_get tk os (k + 1) i, show k + 1 + i = k + (i + 1) by omega]
theorem flagL_len (tk : List (Nat × Nat)) : ∀ (os : List Oper) (k : Nat), (flagL tk k os).length = os.length
  | [], _ => rfl
  | o :: os, k => by simp [flagL, flagL_len tk os (k + 1)]
theorem flag_get (tk : List (Nat × Nat)) (ops : Array Oper) (i : Nat) : (flagA tk ops)[i]? = (ops[i]?).map (flag1 (flagAt tk i)) := by
  simp [flagA, flagL_get]
theorem flag_size (tk : List (Nat × Nat)) (ops : Array Oper) : (flagA tk ops).size = ops.size := by simp [flagA, flagL_len]
theorem flag1_cases (b : Nat) (o : Oper) : flag1 b o = o ∨ (∃ x, o.op = .move x ∧ flag1 b o = { o with op := .assign x }) ∨ (∃ n, flag1 b o = { o with type := n } ∧ ((∃ e, o.op = .alloc e) ∨ (∃ e x, o.op = .box e x) ∨ (∃ t x, o.op = .load t x) ∨ (∃ t x y, o.op = .store t x y) ∨ (∃ as ts, o.op = .call { callee := .builtin .len, args := as, argTypes := ts }) ∨ ∃ x i, o.op = .extract x i)) := by
  unfold flag1
  split
  · exact .inl rfl
  · split
    · rename_i x ho; exact .inr (.inl ⟨x, ho, rfl⟩)
    · rename_i e ho; exact .inr (.inr ⟨_, rfl, .inl ⟨_, ho⟩⟩)
    · rename_i e x ho; exact .inr (.inr ⟨_, rfl, .inr (.inl ⟨_, _, ho⟩)⟩)
    · rename_i e x ho; exact .inr (.inr ⟨_, rfl, .inr (.inr (.inl ⟨_, _, ho⟩))⟩)
    · rename_i e x y ho; exact .inr (.inr ⟨_, rfl, .inr (.inr (.inr (.inl ⟨_, _, _, ho⟩)))⟩)
    · rename_i x i ho; exact .inr (.inr ⟨_, rfl, .inr (.inr (.inr (.inr (.inr ⟨_, _, ho⟩))))⟩)
    · rename_i cl ho
      obtain ⟨callee, as, ts⟩ := cl
      split
      · rename_i hb; replace hb : callee = .builtin .len := hb; subst hb; exact .inr (.inr ⟨_, rfl, .inr (.inr (.inr (.inr (.inl ⟨_, _, ho⟩))))⟩)
      · exact .inl rfl
    · exact .inl rfl
theorem flag1_same (b : Nat) (o : Oper) : (flag1 b o).dst = o.dst ∧ (flag1 b o).guard = o.guard ∧ (flag1 b o).after = o.after ∧ ∀ (ρ : Operand → Value), execOp ρ (flag1 b o) = execOp ρ o := by
  rcases flag1_cases b o with h | ⟨x, ho, h⟩ | ⟨n, h, ho⟩
  · rw [h]; exact ⟨rfl, rfl, rfl, fun _ => rfl⟩
  · rw [h]; exact ⟨rfl, rfl, rfl, fun ρ => by simp [execOp, ho]⟩
  · rw [h]
    refine ⟨rfl, rfl, rfl, fun ρ => ?_⟩
    rcases ho with ⟨e, ho⟩ | ⟨e, x, ho⟩ | ⟨t, x, ho⟩ | ⟨t, x, y, ho⟩ | ⟨as, ts, ho⟩ | ⟨x, i, ho⟩
    · simp [execOp, ho]
    · simp [execOp, ho]
    · simp [execOp, ho]
    · simp [execOp, ho]
    · simp [execOp, ho, resolve, invoke, builtin, Builtin.len_]
    · simp [execOp, ho]
theorem flag1_upon (b : Nat) (o : Oper) (a : Act) (K : Act → World → Prop) (Q : Exit → Act → World → Prop) (r : Result Next) : (flag1 b o).upon P a K Q r = o.upon P a K Q r := by
  rcases flag1_cases b o with h | ⟨x, ho, h⟩ | ⟨n, h, ho⟩
  · rw [h]
  · rw [h]; rfl
  · rw [h]; rfl
theorem flag1_wp (b : Nat) (o : Oper) (a : Act) (w : World) (K : Act → World → Prop) (Q : Exit → Act → World → Prop) : (flag1 b o).wp P a w K Q = o.wp P a w K Q := by
  unfold Oper.wp
  rw [(flag1_same b o).2.2.2, flag1_upon]
theorem flag1_asks (b : Nat) (o : Oper) (a : Act) (w : World) : (flag1 b o).asks P a w = o.asks P a w := by
  unfold Oper.asks
  rw [(flag1_same b o).2.2.2]
theorem flag_yielded (tk : List (Nat × Nat)) (ops : Array Oper) (tmps : Array Value) : yielded (flagA tk ops) tmps = yielded ops tmps := by
  funext j
  unfold yielded
  rw [flag_get]
  cases h : ops[j]? with
  | none => rfl
  | some o => simp [(flag1_same _ o).1]
theorem flag_wanted (b : Nat) (o : Oper) (y : Nat → Option Bool) : Region.wanted (flag1 b o) y = Region.wanted o y := by
  unfold Region.wanted
  rw [(flag1_same b o).2.1]
theorem flag_wpOp {tk : List (Nat × Nat)} {Q : Exit → Act → World → Prop} {i : Nat} {K K' : Act → World → Prop} {a : Act} {w : World} (hK : ∀ a w, K a w → K' a w) (h : wpOp P (flagA tk ops) Q i K a w) : wpOp P ops Q i K' a w := by
  refine wpOp_mono hK ?_
  unfold wpOp at *
  rw [flag_get] at h
  cases ho : ops[i]? with
  | none => rw [ho] at h; exact h
  | some o =>
    rw [ho] at h
    simp only [Option.map_some, flag_yielded, flag_wanted, flag1_wp, flag1_asks, (flag1_same _ o).1] at h
    exact h
theorem flag_wpOps {tk : List (Nat × Nat)} {Q : Exit → Act → World → Prop} : ∀ (is : List Nat) (a : Act) (w : World), wpOps P (flagA tk ops) Q is a w → wpOps P ops Q is a w
  | [], _, _, h => h
  | i :: is, a, w, h => by
    rw [wpOps_cons] at h ⊢
    exact flag_wpOp (fun a w => flag_wpOps is a w) h
theorem flag_ready (tk : List (Nat × Nat)) (listed : Array Bool) : Region.ready md (flagA tk ops) listed = Region.ready md ops listed := by
  unfold Region.ready
  rw [flag_size]
  congr 1
  funext i
  rw [flag_get]
  cases ops[i]? with
  | none => rfl
  | some o => simp [(flag1_same _ o).2.2.1]
theorem flag_wpAny {tk : List (Nat × Nat)} {Q : Exit → Act → World → Prop} : ∀ (n : Nat) (listed : Array Bool) (a : Act) (w : World), wpAny P md (flagA tk ops) Q n listed a w → wpAny P md ops Q n listed a w
  | 0, listed, a, w, h => ⟨by rw [← flag_ready tk]; exact h.1, h.2⟩
  | n + 1, listed, a, w, h => ⟨fun h0 => h.1 (by rw [flag_ready]; exact h0), fun i hi => flag_wpOp (fun a w => flag_wpAny n _ a w) (h.2 i (by rw [flag_ready]; exact hi))⟩
theorem drawn_ok (hT : ∀ t ti, T t = some ti → tiOf P t = some ti) (hC : ∀ f, HSound P f (C f)) {id : Nat} {tk : List (Nat × Nat)} {is : List Nat} (hc : drawChk P (flagA tk ops) is = true) {q : Q} {K : Q → Option R} {r : R}
    (h : (match startOk (dall (flagA tk ops)) q with | true => runD T C (flagA tk ops) (dall (flagA tk ops)) (opsAt (flagA tk ops).toList is) q K | false => none) = some r) :
    ∃ qf, K qf = some r ∧ ∀ (fr : Fr) (a : Act) (c : Cx), Rel fr q a c → ∀ Qp : Exit → Act → World → Prop, (∀ a' c', Rel fr qf a' c' → Qp .normal a' c'.w) → (Code.region id ops true).wp P Qp a c.w := by
  obtain ⟨qf, hK, hm, hw⟩ := drawn_ok' hT hC hc h
  refine ⟨qf, hK, fun fr a c hr Qp hQ => wp_region_any hm ?_⟩
  have := flag_wpAny _ _ _ _ (hw fr a c hr Qp hQ)
  rwa [flag_size] at this
end
end Go.Lm
