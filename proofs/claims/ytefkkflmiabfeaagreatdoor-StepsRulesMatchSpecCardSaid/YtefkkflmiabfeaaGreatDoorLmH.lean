/- Handlers by hand: functions whose contract is known in the machine's own words. -/
import Derived.Test.YtefkkflmiabfeaaGreatDoorLmG
import Derived.Below
set_option linter.unusedVariables false
set_option linter.unusedSimpArgs false
namespace Go.Lm
section
variable {R : Type} {P : Program}

theorem rigid_rep {c : Cx} {x : LV} {v u : Value} {O : List Nat} (h : rigid x = some v) (r : Rep c x u O) : u = v := by
  cases x <;> simp only [rigid] at h <;> try (cases h; done)
  · cases h; exact rep_int r
  · cases h; exact rep_bool r
  · cases h; exact rep_str r
theorem rigid_mk {c : Cx} {x : LV} {v : Value} (h : rigid x = some v) : Rep c x v [] := by
  cases x <;> simp only [rigid] at h <;> try (cases h; done)
  · cases h; exact .int _ _
  · cases h; exact .bool _
  · cases h; exact .str _
def rigids : List LV → Option (List Value)
  | [] => some []
  | x :: xs => match rigid x, rigids xs with
    | some v, some vs => some (v :: vs)
    | _, _ => none
theorem rigids_rep {c : Cx} : ∀ {xs : List LV} {vs us : List Value} {o : Nat → List Nat}, rigids xs = some vs → us.length = xs.length → (∀ i, i < xs.length → Rep c (xs.getD i .any) (us.getD i undef) (o i)) → us = vs
  | [], vs, us, o, h, hl, _ => by cases h; exact List.eq_nil_of_length_eq_zero hl
  | x :: xs, vs, [], o, h, hl, _ => by simp at hl
  | x :: xs, vs, u :: us, o, h, hl, hr => by
    simp only [rigids] at h
    split at h
    · rename_i v vs' h1 h2
      cases h
      have e1 := rigid_rep h1 (hr 0 (by simp))
      have e2 := rigids_rep (o := fun i => o (i + 1)) h2 (by simpa using hl) (fun i hi => by have := hr (i + 1) (by simpa using hi); simpa using this)
      simp only [List.getD_cons_zero] at e1
      rw [e1, e2]
    · cases h

/-- What stands behind a call that takes no owner. -/
theorem LCalls.ofS {f : FuncId} {args S : List LV} {r : LV} (h : ∀ (c : Cx) (vs : List Value) (o : Nat → List Nat), vs.length = args.length → (∀ i, i < args.length → Rep c (args.getD i .any) (vs.getD i undef) (o i)) →
      (∀ b p, c.I b p → b < c.w.heap.size) → (∀ id, id < S.length → ∃ O, Rep c (S.getD id .any) (oval (S.getD id .any) (c.ι id)) O) → Calls P f vs.toArray c.w fun e w' => ∃ c' v O, e = .returned v ∧ c'.w = w' ∧ Ext c c' (fun _ => False) ∧ Rep c' r v O ∧ O.Nodup ∧ (∀ g, g ∈ O → c.w.heap.size ≤ g ∧ g < w'.heap.size) ∧ c'.n = c.n ∧ ∀ b p, c'.I b p → b < w'.heap.size) : LCalls P f args S r S := by
  intro c vs o hl hr hsto hsep hlt
  refine (h c vs (fun i => o (.arg i)) hl hr hsto.bd (fun id hid => ⟨_, hsto.r id hid⟩)).mono ?_
  rintro e w' ⟨c', v, O, he, hw, hext, hrep, hnd, hO, hn, hbd⟩
  subst hw
  let o' : Ow := fun k => match k with
    | .env _ => []
    | .sto id => o (.sto id)
    | .arg i => if i = 0 then O else []
  have key : ∀ k g, g ∈ o' k → (∃ id, k = .sto id ∧ g ∈ o (.sto id)) ∨ (k = .arg 0 ∧ g ∈ O) := fun k g hg => by
    cases k with
    | env t => simp [o'] at hg
    | sto id => exact .inl ⟨id, rfl, hg⟩
    | arg i =>
      simp only [o'] at hg
      split at hg
      · rename_i e; subst e; exact .inr ⟨rfl, hg⟩
      · simp at hg
  refine ⟨c', v, o', he, rfl, hext.mono (fun b h => h.elim), hrep, ⟨hn.trans hsto.n, fun id hid => ?_, hbd⟩, ⟨fun k => ?_, fun k k' g hne hg hg' => ?_⟩, fun k g hg => ?_, fun t => rfl⟩
  · have h1 := (hsto.r id hid).ext hext (by simp)
    rw [hext.ι id (by rw [hsto.n]; exact hid)]
    exact h1
  · cases k with
    | env t => exact List.nodup_nil
    | sto id => exact hsep.nd _
    | arg i => simp only [o']; split; exact hnd; exact List.nodup_nil
  · rcases key k g hg with ⟨id, rfl, h1⟩ | ⟨rfl, h1⟩ <;> rcases key k' g hg' with ⟨id', rfl, h2⟩ | ⟨rfl, h2⟩
    · exact hsep.dj _ _ g hne h1 h2
    · have := hlt _ g h1; have := (hO g h2).1; omega
    · have := hlt _ g h2; have := (hO g h1).1; omega
    · exact absurd rfl hne
  · rcases key k g hg with ⟨id, rfl, h1⟩ | ⟨rfl, h1⟩
    · exact ⟨Nat.lt_of_lt_of_le (hlt _ g h1) hext.size, .inl ⟨_, h1⟩⟩
    · exact ⟨(hO g h1).2, .inr (hO g h1).1⟩

theorem LCalls.of {f : FuncId} {args S : List LV} {r : LV} (h : ∀ (c : Cx) (vs : List Value) (o : Nat → List Nat), vs.length = args.length → (∀ i, i < args.length → Rep c (args.getD i .any) (vs.getD i undef) (o i)) →
      (∀ b p, c.I b p → b < c.w.heap.size) → Calls P f vs.toArray c.w fun e w' => ∃ c' v O, e = .returned v ∧ c'.w = w' ∧ Ext c c' (fun _ => False) ∧ Rep c' r v O ∧ O.Nodup ∧ (∀ g, g ∈ O → c.w.heap.size ≤ g ∧ g < w'.heap.size) ∧ c'.n = c.n ∧ ∀ b p, c'.I b p → b < w'.heap.size) : LCalls P f args S r S :=
  LCalls.ofS fun c vs o hl hr hbd _ => h c vs o hl hr hbd
/-- A call that turns nothing, from values to a value. -/
theorem LCalls.same {f : FuncId} {args S : List LV} {vals : List Value} {r : LV} {v : Value} (ha : rigids args = some vals) (hr : rigid r = some v) (h : ∀ w, Calls P f vals.toArray w fun e w' => e = .returned v ∧ w' = w) : LCalls P f args S r S := by
  refine LCalls.of fun c vs o hl hrep hbd => ?_
  rw [rigids_rep ha hl hrep]
  refine (h c.w).mono ?_
  rintro e w' ⟨he, rfl⟩
  exact ⟨c, v, [], he, rfl, Ext.refl _ _, rigid_mk hr, List.nodup_nil, by simp, rfl, hbd⟩
/-- A call that leaves all that was there, from values to a value. -/
theorem LCalls.below {f : FuncId} {args S : List LV} {vals : List Value} {r : LV} {v : Value} (ha : rigids args = some vals) (hr : rigid r = some v) (h : ∀ w, Calls P f vals.toArray w fun e w' => e = .returned v ∧ RowKit.Below w.heap.size w w') : LCalls P f args S r S := by
  refine LCalls.of fun c vs o hl hrep hbd => ?_
  rw [rigids_rep ha hl hrep]
  refine (h c.w).mono ?_
  rintro e w' ⟨he, hb⟩
  exact ⟨{ c with w := w' }, v, [], he, rfl, ⟨Nat.le_refl _, fun _ _ => rfl, fun _ _ h => h, fun b o h => World.cell?_of_block (w := c.w) (hb.block b (hbd b o h)), hb.size, fun b hlt _ => hb.block b hlt, fun _ _ _ _ h => h, (fun _ _ _ _ h _ => False.elim h), hb.os, hb.tape, hb.output⟩,
    rigid_mk hr, List.nodup_nil, by simp, rfl, fun b p h => Nat.lt_of_lt_of_le (hbd b p h) hb.size⟩
/-- The same, where what it does hangs on a block of the program's own. -/
theorem LCalls.belowG {f : FuncId} {args S : List LV} {vals : List Value} {r : LV} {v : Value} {id k : Nat} {ob : Obj} (hS : S.getD id .any = .glob k ob) (ha : rigids args = some vals) (hr : rigid r = some v)
    (h : ∀ w, w.heap[k]? = some ob → Calls P f vals.toArray w fun e w' => e = .returned v ∧ RowKit.Below w.heap.size w w') : LCalls P f args S r S := by
  refine LCalls.ofS fun c vs o hl hrep hbd hsto => ?_
  rw [rigids_rep ha hl hrep]
  have hid : id < S.length := by
    rcases Nat.lt_or_ge id S.length with h1 | h1
    · exact h1
    · rw [List.getD_eq_getElem?_getD, List.getElem?_eq_none h1] at hS; cases hS
  have hh : c.w.heap[k]? = some ob := by
    obtain ⟨O, h2⟩ := hsto id hid
    rw [hS] at h2
    generalize oval (.glob k ob) (c.ι id) = z at h2
    cases h2 with
    | glob _ _ hh => exact hh
  refine (h c.w hh).mono ?_
  rintro e w' ⟨he, hb⟩
  exact ⟨{ c with w := w' }, v, [], he, rfl, ⟨Nat.le_refl _, fun _ _ => rfl, fun _ _ h => h, fun b o h => World.cell?_of_block (w := c.w) (hb.block b (hbd b o h)), hb.size, fun b hlt _ => hb.block b hlt, fun _ _ _ _ h => h, (fun _ _ _ _ h _ => False.elim h), hb.os, hb.tape, hb.output⟩,
    rigid_mk hr, List.nodup_nil, by simp, rfl, fun b p h => Nat.lt_of_lt_of_le (hbd b p h) hb.size⟩
/-- A call that makes a row of values of one cell. -/
theorem LCalls.row {f : FuncId} {args S : List LV} {vals : List Value} {xs : List LV} {us : List Value} {e : TypeId} (ha : rigids args = some vals) (hx : rigids xs = some us) (hl : us.length = xs.length) (hmax : xs.length ≤ 9223372036854775807)
    (h : ∀ w, Calls P f vals.toArray w fun en w' => en = .returned (.slice (some ⟨w.heap.size, 0, none⟩) xs.length xs.length) ∧ w' = w.alloc (.cells us.toArray e)) : LCalls P f args S (.sl 1 xs) S := by
  refine LCalls.of fun c vs o hvl hrep hbd => ?_
  rw [rigids_rep ha hvl hrep]
  refine (h c.w).mono ?_
  rintro en w' ⟨hen, rfl⟩
  have hsz : (c.w.alloc (.cells us.toArray e)).heap.size = c.w.heap.size + 1 := by simp
  have hget : ∀ i, i < xs.length → ∃ v, rigid (xs.getD i .any) = some v ∧ us.getD i undef = v ∧ v.oneCell' = true := by
    clear hl hmax hen hsz hrep hvl ha h
    induction xs generalizing us with
    | nil => intro i hi; simp at hi
    | cons x xs ih =>
      intro i hi
      simp only [rigids] at hx
      split at hx
      · rename_i v vs' h1 h2
        cases hx
        cases i with
        | zero =>
          refine ⟨v, by simpa using h1, by simp, ?_⟩
          cases x <;> simp only [rigid] at h1 <;> first | (cases h1; rfl) | cases h1
        | succ i => obtain ⟨v', h3, h4, h5⟩ := ih h2 i (by simpa using hi); exact ⟨v', by simpa using h3, by simpa using h4, h5⟩
      · cases hx
  have hc : ∀ p, p < xs.length → (c.w.alloc (.cells us.toArray e)).cell? ⟨c.w.heap.size, 0 + p, none⟩ = some (us.getD p undef) := fun p hp => by
    have hp' : p < us.length := by omega
    simp [hp', List.getD_eq_getElem?_getD]
  refine ⟨{ c with w := c.w.alloc (.cells us.toArray e), I := fun b p => c.I b p ∨ (b = c.w.heap.size ∧ p < xs.length) }, _, [], hen, rfl, ?_, ?_, List.nodup_nil, by simp, rfl, fun b p hb => ?_⟩
  · refine ⟨Nat.le_refl _, fun _ _ => rfl, fun b o hb => .inl hb, fun b o hb => ?_, by rw [hsz]; omega, fun b hb _ => ?_, fun b o hb _ hi => ?_, (fun _ _ _ _ h _ => False.elim h), rfl, rfl, rfl⟩
    · have := hbd b o hb
      show World.cell? (c.w.alloc _) _ = _
      exact World.cell?_alloc_old _ _ _ (Nat.ne_of_lt this)
    · show (c.w.alloc (.cells us.toArray e)).heap[b]? = _
      show (c.w.heap.push (.cells us.toArray e))[b]? = _
      rw [Array.getElem?_push_lt hb, Array.getElem?_eq_getElem hb]
    · rcases hi with hi | ⟨rfl, _⟩
      · exact hi
      · omega
  · refine .sl 1 c.w.heap.size 0 xs.length xs (fun p => us.getD p undef) (Nat.le_refl _) hmax (fun p hp => hc p (by omega)) (fun p hp => .inr ⟨rfl, by omega⟩) (fun p hp => ?_) (fun p hp => ?_)
    · obtain ⟨v, _, h2, h3⟩ := hget p (by omega); rw [h2]; exact h3
    · obtain ⟨v, h1, h2, h3⟩ := hget p (by omega)
      rw [h2, Nat.div_one, Nat.mod_one]
      have : leaf (xs.getD p .any) 0 = xs.getD p .any := by
        cases hz : xs.getD p .any <;> rw [hz] at h1 <;> simp only [rigid] at h1 <;> first | rfl | cases h1
      rw [this]
      exact rigid_mk h1
  · show b < (c.w.alloc (.cells us.toArray e)).heap.size
    rw [hsz]
    rcases hb with hb | ⟨rfl, _⟩
    · have := hbd b p hb; omega
    · omega
/-- A handler by a partial function. -/
def handF (ps rs : Mk) (g : ps.ty → Option rs.ty) (x : ps.ty) (S : List LV) (K : rs.ty → List LV → Option R) : Option R := match g x with
  | some r => K r S
  | none => none
theorem hand_ok {f : FuncId} (hen : Enters P f) {ps rs : Mk} {g : ps.ty → Option rs.ty} (hv : ∀ x r S, g x = some r → LCalls P f (ps.enc x) S (resE rs r) S) :
    HSound P f (hT (R := R) ps fun x S K => handF ps rs g x S fun r S => K (resE rs r) S) := by
  intro args S K r h
  unfold hT at h
  split at h
  · split at h
    · rename_i x hx
      simp only [handF] at h
      split at h
      · rename_i y hy
        refine ⟨hen, _, S, ?_, h⟩
        have := hv x y S hy
        rw [← Mk.dec_enc ps _ x hx] at this
        exact this.co
      · cases h
    · cases h
  · cases h

/-- A slice that is only read is nil, or it is not. -/
theorem LCalls.nilCases {f : FuncId} {sz : Nat} {xs S : List LV} {r : LV} {S' : List LV} (h0 : xs = [] → LCalls P f [.nilsl] S r S') (h1 : LCalls P f [.nsl sz xs] S r S') : LCalls P f [.sl sz xs] S r S' := by
  intro c vs o hl hr hsto hsep hlt
  have hr0 := hr 0 (by simp)
  simp only [List.getD_cons_zero] at hr0
  have hO : Rep c (.sl sz xs) (vs.getD 0 undef) [] := hr0.dup
  obtain ⟨A, cap, hv, _⟩ := rep_sl hr0
  have one : ∀ (y : LV), Rep c y (vs.getD 0 undef) [] → LCalls P f [y] S r S' → Calls P f vs.toArray c.w fun e w' => ∃ c' v o', e = .returned v ∧ c'.w = w' ∧ Ext c c' (fun g => ∃ k, g ∈ o k) ∧ Rep c' r v (o' (.arg 0)) ∧ Sto c' S' o' ∧ Sep o' ∧
      (∀ k g, g ∈ o' k → g < w'.heap.size ∧ ((∃ k', g ∈ o k') ∨ c.w.heap.size ≤ g)) ∧ ∀ t, o' (.env t) = [] := by
    intro y hy hc
    let o1 : Ow := upd o (.arg 0) []
    have sub : ∀ k g, g ∈ o1 k → g ∈ o k := fun k g hg => by
      simp only [o1, upd] at hg
      split at hg
      · simp at hg
      · exact hg
    refine (hc c vs o1 (by simpa using hl) (fun i hi => ?_) ⟨hsto.n, fun id hid => ?_, hsto.bd⟩ (hsep.drop _) (fun k g hg => hlt k g (sub k g hg))).mono ?_
    · have : i = 0 := by simpa using hi
      subst this
      simp only [o1, upd_same, List.getD_cons_zero]
      exact hy
    · simp only [o1]; rw [upd_other _ _ (by simp)]; exact hsto.r id hid
    · rintro e w' ⟨c', v, o2, he, hw, hext, hrep, hs, hsp, hown, henv⟩
      exact ⟨c', v, o2, he, hw, hext.mono (fun b ⟨k, hb⟩ => ⟨k, sub k b hb⟩), hrep, hs, hsp, fun k g hg => ⟨(hown k g hg).1, (hown k g hg).2.elim (fun ⟨k', hk⟩ => .inl ⟨k', sub k' g hk⟩) .inr⟩, henv⟩
  cases A with
  | none =>
    rw [hv] at hO
    obtain ⟨hx, hn, hcap⟩ := rep_sl_nil hO
    refine one .nilsl ?_ (h0 hx)
    rw [hv, hn, hcap]
    exact .nilsl
  | some a => exact one (.nsl sz xs) (.nsl sz xs _ a _ cap hv hO) h1
/-- What a handler's answer says of the call. -/
theorem HSound.calls {f : FuncId} {h : Hd (LV × List LV)} (hs : HSound P f h) {args S S' : List LV} {r : LV} (he : h args S (fun v S => some (v, S)) = some (r, S')) : LCalls P f args S r S' := by
  obtain ⟨_, v, S1, hc, h1⟩ := hs args S _ _ he
  cases h1
  exact hc
end
end Go.Lm
