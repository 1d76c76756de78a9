/- Regions whose order is drawn: operations that are handed owners, and calls. -/
import Derived.Test.YtnapepffpbbkoaaDoorLmFb
namespace Go.Lm
section
variable {R : Type} {P : Program} {T : Nat → Option TI} {C : Nat → Hd R}

def dupAt : List Nat → List LV → List LV
  | [], E => E
  | t :: U, E => dupAt U (E.set t (dup (E.getD t .any)))
def Q.giv (q : Q) (U : List Nat) (S : Option (List LV)) : Q := { q with E := dupAt U q.E, S := S.getD q.S }
def Q.give (q : Q) (U : List Nat) (S : List LV) : Q := { q with E := dupAt U q.E, S := S }
theorem dup_any : dup .any = .any := rfl
theorem getD_set_dup (E : List LV) (t s : Nat) : (E.set t (dup (E.getD t .any))).getD s .any = if s = t then dup (E.getD t .any) else E.getD s .any := by
  by_cases h : s = t
  · subst h
    rw [if_pos rfl]
    by_cases hl : s < E.length
    · simp [List.getD_eq_getElem?_getD, hl]
    · have : E.getD s .any = .any := by simp [List.getD_eq_getElem?_getD, List.getElem?_eq_none (Nat.le_of_not_lt hl)]
      rw [this, List.set_eq_of_length_le (Nat.le_of_not_lt hl), this]; rfl
  · rw [if_neg h]
    simp only [List.getD_eq_getElem?_getD, List.getElem?_set_ne (Ne.symm h)]
theorem dupAt_ne : ∀ (U : List Nat) (E : List LV) (s : Nat), s ∉ U → (dupAt U E).getD s .any = E.getD s .any
  | [], E, s, _ => rfl
  | t :: U, E, s, h => by
    simp only [List.mem_cons, not_or] at h
    rw [dupAt, dupAt_ne U _ s h.2, getD_set_dup, if_neg h.1]
theorem dupAt_set : ∀ (U : List Nat) (E : List LV) (d : Nat) (v : LV), d ∉ U → dupAt U (E.set d v) = (dupAt U E).set d v
  | [], E, d, v, _ => rfl
  | t :: U, E, d, v, h => by
    simp only [List.mem_cons, not_or] at h
    have : (E.set d v).getD t .any = E.getD t .any := by simp only [List.getD_eq_getElem?_getD, List.getElem?_set_ne h.1]
    rw [dupAt, this, List.set_comm _ _ h.1, dupAt_set U _ d v h.2]; rfl
theorem dupAt_comm : ∀ (U V : List Nat) (E : List LV), (∀ t, t ∈ U → t ∉ V) → dupAt U (dupAt V E) = dupAt V (dupAt U E)
  | [], _, _, _ => rfl
  | t :: U, V, E, h => by
    have ht := h t (by simp)
    rw [dupAt, dupAt, dupAt_ne V E t ht, ← dupAt_set V E t _ ht, dupAt_comm U V _ fun s hs => h s (by simp [hs])]
theorem used_give (q : Q) (x : Operand) : q.used x = q.give (tmpsOf [x]) q.S := by cases x <;> rfl
theorem takes_give : ∀ (xs : List Operand) (q : Q), (takes xs q).2 = q.give (tmpsOf xs) q.S
  | [], q => rfl
  | x :: xs, q => by
    rw [takes, takes_give xs, used_give]
    cases x <;> rfl
theorem ev_used {q q' : Q} {x y : Operand} (hx : ev q'.E x = ev q.E x) (hy : ev q'.E y = ev q.E y) : ev (q'.used x).E y = ev (q.used x).E y := by
  cases x with
  | tmp t =>
    cases y with
    | tmp s =>
      simp only [Q.used, ev] at *
      rw [getD_set_dup, getD_set_dup, hx, hy]
    | _ => exact hy
  | _ => exact hy
theorem takes_congr : ∀ (xs : List Operand) (q q' : Q), (∀ x, x ∈ xs → ev q'.E x = ev q.E x) → (takes xs q').1 = (takes xs q).1
  | [], _, _, _ => rfl
  | x :: xs, q, q', h => by
    rw [takes, takes, h x (by simp), takes_congr xs (q.used x) (q'.used x) (fun y hy => by
      exact ev_used (h x (by simp)) (h y (by simp [hy])))]
theorem noneHd (f : FuncId) : HSound P f (R := R) (fun _ _ _ => none) := fun _ _ _ _ h => by cases h

theorem mild_loc (hT : ∀ t ti, T t = some ti → tiOf P t = some ti) (hC : ∀ f, HSound P f (C f)) {ops : Array Oper} {o : Oper} {q : Q} (hs : mildB o = true)
    {K : LV → Option (Nat × Nat) → Q → Option R} {r : R} (h : lop T C o q K = some r) :
    ∃ x U S, K x none (q.giv U S) = some r ∧ (takeB o = true → S = none) ∧ (∀ t, t ∈ U → t ∈ tmpsOf o.op.operands.toList) ∧ ∀ q', Agr ops o q q' → OpOk P q' o x none (q'.giv U S) := by
  unfold lop at h
  split at h <;> rename_i ho <;> simp only [mildB, ho] at hs <;> try (cases hs; done)
  · rename_i x
    rw [used_give] at h
    refine ⟨_, tmpsOf [x], none, h, fun _ => rfl, fun t ht => by rw [ho]; simpa [Op.operands] using ht, fun q' ha => ?_⟩
    have := ok_assign (P := P) (q := q') ho
    rw [used_give, ha.ev x (by rw [ho]; simp [Op.operands])] at this
    exact this
  · rename_i cl
    split at hs <;> try (cases hs; done)
    · rename_i hb
      have hns : takeB o = false := by simp [takeB, stillB, ho, hb]
      have hfl := hs
      simp only [hb, hfl] at h
      have key : ∃ x0, x0 ∈ o.op.operands.toList ∧ ∃ v, K v none (q.used x0) = some r ∧ ∀ q', Agr ops o q q' → ∀ {R' : Type} (C' : Nat → Hd R') (K' : LV → Option (Nat × Nat) → Q → Option R'), lop T C' o q' K' = K' v none (q'.used x0) := by
        unfold callB at h
        split at h
        · rename_i heq _ _; cases heq
        · rename_i t t' x y _ hat hargs
          have hx : x ∈ o.op.operands.toList := by rw [ho]; simp only [Op.operands, Call.operands, hb]; simp [hargs]
          have hy : y ∈ o.op.operands.toList := by rw [ho]; simp only [Op.operands, Call.operands, hb]; simp [hargs]
          refine ⟨x, hx, ?_⟩
          split at h
          · rename_i ti ti' ht ht'
            split at h
            · rename_i h1 h2 h3
              split at h
              · rename_i z ys hv
                rcases ifB_some h with ⟨h4, h⟩ | ⟨_, h⟩
                · obtain ⟨xs, h, hxs⟩ := asSl_loc h
                  unfold app at h
                  rcases ifB_some h with ⟨h5, h⟩ | ⟨_, h⟩
                  · exact ⟨_, h, fun q' ha R' C' K' => by simp only [lop, ho, hb, hfl, callB, hat, hargs, ht, ht', h1, h2, h3, ha.ev x hx, ha.ev y hy, hv, h4, hxs, app, h5, ifB]⟩
                  · cases h
                · cases h
              · rename_i hv
                obtain ⟨xs, h, hxs⟩ := asSl_loc h
                unfold app at h
                rcases ifB_some h with ⟨h5, h⟩ | ⟨_, h⟩
                · exact ⟨_, h, fun q' ha R' C' K' => by simp only [lop, ho, hb, hfl, callB, hat, hargs, ht, ht', h1, h2, h3, ha.ev x hx, ha.ev y hy, hv, hxs, app, h5, ifB]⟩
                · cases h
              · cases h
            · cases h
          · cases h
        · cases h
      obtain ⟨x0, hx0, v, h, hl⟩ := key
      rw [used_give] at h
      refine ⟨v, _, some q.S, h, (fun h => by rw [hns] at h; cases h), fun t ht => ?_, fun q' ha => ?_⟩
      · cases x0 <;> simp only [tmpsOf, List.filterMap_cons, List.filterMap_nil, List.mem_cons, List.not_mem_nil, or_false] at ht
        subst ht
        exact List.mem_filterMap.2 ⟨_, hx0, rfl⟩
      · have e := hl q' ha (R' := LV × Option (Nat × Nat) × Q) (fun _ _ _ _ => none) fun x al q => some (x, al, q)
        obtain ⟨x, al, q'', h1, h2⟩ := lop_ok hT (fun f => noneHd f) o q' _ _ e
        simp only [Option.some.injEq, Prod.mk.injEq] at h1
        obtain ⟨rfl, rfl, rfl⟩ := h1
        rw [used_give, ha.S hns] at h2
        exact h2
    · rename_i x hb
      have hns : takeB o = false := by simp [takeB, stillB, ho, hb]
      simp only [hb] at h
      obtain ⟨f, cs, hx, h⟩ := asFn_some h
      obtain ⟨hen, v, S', hc, h⟩ := hC f _ _ _ _ h
      obtain ⟨callee, as, ts⟩ := cl
      simp only at hb
      subst hb
      have hops : ∀ y, y ∈ as.toList → y ∈ o.op.operands.toList := fun y hy => by rw [ho]; simp only [Op.operands, Call.operands]; simp [by simpa using hy]
      have hxo : x ∈ o.op.operands.toList := by rw [ho]; simp only [Op.operands, Call.operands]; simp
      simp only [takes_give] at h
      refine ⟨v, tmpsOf as.toList, some S', h, (fun h => by rw [hns] at h; cases h), fun t ht => ?_, fun q' ha => ?_⟩
      · obtain ⟨y, hy, hy'⟩ := List.mem_filterMap.1 ht
        exact List.mem_filterMap.2 ⟨y, hops y hy, hy'⟩
      · have hc' : LCalls P f ((takes as.toList q').1 ++ cs) q'.S v S' := by
          rw [takes_congr as.toList q q' (fun y hy => ha.ev y (hops y hy)), ha.S hns]; exact hc
        have := ok_call (P := P) (q := q') ho ((ha.ev x hxo).trans hx) hen hc'
        rw [takes_give] at this
        exact this
end
end Go.Lm
