/- One operation: components, calls. -/
import Derived.Test.YtnapepffpbbkoaaGreatDoorLmE8
namespace Go.Lm
section
variable {R : Type} {P : Program} {T : Nat → Option TI} {C : Nat → Hd R}

theorem flatO_mem {n : Nat} {os : Nat → List Nat} {g : Nat} : g ∈ flatO n os ↔ ∃ i, i < n ∧ g ∈ os i := by
  simp [flatO]
theorem flatO_nd : ∀ {n : Nat} {os : Nat → List Nat}, (flatO n os).Nodup → (∀ i, i < n → (os i).Nodup) ∧ ∀ i j g, i < n → j < n → i ≠ j → g ∈ os i → g ∉ os j
  | 0, os, _ => ⟨fun i hi => absurd hi (by simp), fun i j g hi => absurd hi (by simp)⟩
  | n + 1, os, h => by
    have e : flatO (n + 1) os = flatO n os ++ os n := by simp [flatO, List.range_succ]
    rw [e, List.nodup_append] at h
    obtain ⟨h1, h2⟩ := flatO_nd h.1
    refine ⟨fun i hi => ?_, fun i j g hi hj hne hgi hgj => ?_⟩
    · by_cases e : i = n
      · subst e; exact h.2.1
      · exact h1 i (by omega)
    · by_cases ei : i = n
      · subst ei
        exact h.2.2 g (flatO_mem.2 ⟨j, by omega, hgj⟩) g hgi rfl
      · by_cases ej : j = n
        · subst ej
          exact h.2.2 g (flatO_mem.2 ⟨i, by omega, hgi⟩) g hgj rfl
        · exact h2 i j g (by omega) (by omega) hne hgi hgj
theorem flatO_nd_mk : ∀ {n : Nat} {os : Nat → List Nat}, (∀ i, i < n → (os i).Nodup) → (∀ i j g, i < n → j < n → i ≠ j → g ∈ os i → g ∉ os j) → (flatO n os).Nodup
  | 0, os, _, _ => by simp [flatO]
  | n + 1, os, h1, h2 => by
    have e : flatO (n + 1) os = flatO n os ++ os n := by simp [flatO, List.range_succ]
    rw [e, List.nodup_append]
    refine ⟨flatO_nd_mk (fun i hi => h1 i (by omega)) (fun i j g hi hj => h2 i j g (by omega) (by omega)), h1 n (by omega), fun g hg g' hg' e => ?_⟩
    subst e
    obtain ⟨i, hi, hgi⟩ := flatO_mem.1 hg
    exact h2 i n g (by omega) (by omega) (by omega) hgi hg'

theorem ok_extract {o : Oper} {q : Q} {t i : Nat} {vs : List LV} (ho : o.op = .extract (.tmp t) i) (hx : ev q.E (.tmp t) = .tup vs) (hi : i < vs.length) :
    OpOk P q o (vs.getD i .any) none { q with E := q.E.set t (.tup (vs.set i (dup (vs.getD i .any)))) } := by
  refine op_val fun fr a c hr => ?_
  obtain ⟨ow, hr⟩ := hr
  have hE : q.E.getD t .any = .tup vs := hx
  have ht : t < q.E.length := by
    rcases Nat.lt_or_ge t q.E.length with h1 | h1
    · exact h1
    · rw [List.getD_eq_getElem?_getD, List.getElem?_eq_none h1] at hE; simp at hE
  have r := hr.env t ht
  rw [hE] at r
  generalize hv : a.tmps.getD t undef = v at r
  generalize hO : ow (.env t) = O at r
  cases r with
  | tup _ cs os hs hrep =>
    have hnd : (flatO vs.length os).Nodup := by rw [← hO]; exact hr.sep.nd _
    obtain ⟨n1, n2⟩ := flatO_nd hnd
    let os' : Nat → List Nat := fun j => if j = i then [] else os j
    have hsub : ∀ g, g ∈ flatO vs.length os' → g ∈ ow (.env t) ∧ g ∉ os i := fun g hg => by
      obtain ⟨j, hj, hgj⟩ := flatO_mem.1 hg
      by_cases e : j = i
      · simp [os', e] at hgj
      · simp only [os', e, if_false] at hgj
        exact ⟨by rw [hO]; exact flatO_mem.2 ⟨j, hj, hgj⟩, n2 j i g hj hi e hgj⟩
    have hsubi : ∀ g, g ∈ os i → g ∈ ow (.env t) := fun g hg => by rw [hO]; exact flatO_mem.2 ⟨i, hi, hg⟩
    have hsup : ∀ k g, g ∈ upd (upd ow (.arg 0) (os i)) (.env t) (flatO vs.length os') k → ((k = .arg 0 ∨ k = .env t) ∧ g ∈ ow (.env t)) ∨ (k ≠ .arg 0 ∧ k ≠ .env t ∧ g ∈ ow k) := fun k g hg => by
      unfold upd at hg
      split at hg
      · rename_i hk; exact .inl ⟨.inr hk, (hsub g hg).1⟩
      · rename_i hk
        split at hg
        · rename_i hk'; exact .inl ⟨.inl hk', hsubi g hg⟩
        · rename_i hk'; exact .inr ⟨hk', hk, hg⟩
    refine ⟨c, cs.getD i undef, ?_, ⟨upd (upd ow (.arg 0) (os i)) (.env t) (flatO vs.length os'), by simpa using hr.len, by simpa using hr.alen, fun t' ht' => ?_, fun t' d' p' hp' => by simpa using hr.al t' d' p' hp', ⟨hr.sto.n, fun id hid => ?_, hr.sto.bd⟩, fun j hj => ?_, rfl, ⟨fun k => ?_, fun k k' g hne hg hg' => ?_⟩, hr.ext, fun k g hg => ?_, hr.df⟩, fun _ _ h => by cases h⟩
    · have : i < cs.size := by omega
      have hv' : a.eval (.tmp t) = .tuple cs := hv
      simp [execOp, ho, hv', Instr.extract, this, Array.getD_eq_getD_getElem?]
    · have ht'' : t' < q.E.length := by simpa using ht'
      by_cases e : t' = t
      · subst e
        rw [upd_same, hv]
        have hset : (q.E.set t' (.tup (vs.set i (dup (vs.getD i .any))))).getD t' .any = .tup (vs.set i (dup (vs.getD i .any))) := by simp [List.getD_eq_getElem?_getD, ht'']
        show Rep c ((q.E.set t' _).getD t' .any) _ _
        rw [hset]
        have := Rep.tup (c := c) (vs.set i (dup (vs.getD i .any))) cs os' (by simp [hs]) (fun j hj => by
          have hj' : j < vs.length := by simpa using hj
          by_cases e : j = i
          · subst e
            have h1 : (vs.set j (dup (vs.getD j .any))).getD j .any = dup (vs.getD j .any) := by simp [List.getD_eq_getElem?_getD, hj']
            rw [h1]
            simp only [os', if_true]
            exact (hrep j hj').dup
          · have h1 : (vs.set i (dup (vs.getD i .any))).getD j .any = vs.getD j .any := by simp [List.getD_eq_getElem?_getD, List.getElem?_set_ne (Ne.symm e)]
            rw [h1]
            simp only [os', e, if_false]
            exact hrep j hj')
        simpa using this
      · rw [upd_other _ _ (by simp [e]), upd_other _ _ (by simp)]
        have hset : (q.E.set t (.tup (vs.set i (dup (vs.getD i .any))))).getD t' .any = q.E.getD t' .any := by simp [List.getD_eq_getElem?_getD, List.getElem?_set_ne (Ne.symm e)]
        show Rep c ((q.E.set t _).getD t' .any) _ _
        rw [hset]
        exact hr.env t' ht''
    · rw [upd_other _ _ (by simp), upd_other _ _ (by simp)]; exact hr.sto.r id hid
    · have : j = 0 := by simp at hj; exact hj
      subst this
      rw [upd_other _ _ (by simp), upd_same]
      exact hrep i hi
    · unfold upd
      split
      · exact flatO_nd_mk (fun j hj => by simp only [os']; split; exact List.nodup_nil; exact n1 j hj) (fun j k g hj hk hne hgj hgk => by
          simp only [os'] at hgj hgk
          split at hgj
          · simp at hgj
          · split at hgk
            · simp at hgk
            · exact n2 j k g hj hk hne hgj hgk)
      · split
        · exact n1 i hi
        · exact hr.sep.nd k
    · rcases hsup k g hg with ⟨h1, h2⟩ | ⟨h1, h1', h2⟩
      · rcases hsup k' g hg' with ⟨h3, h4⟩ | ⟨h3, h3', h4⟩
        · rcases h1 with rfl | rfl
          · rcases h3 with rfl | rfl
            · exact hne rfl
            · rw [upd_other _ _ (by simp), upd_same] at hg
              rw [upd_same] at hg'
              exact (hsub g hg').2 hg
          · rcases h3 with rfl | rfl
            · rw [upd_other _ _ (by simp), upd_same] at hg'
              rw [upd_same] at hg
              exact (hsub g hg).2 hg'
            · exact hne rfl
        · exact hr.sep.dj (.env t) k' g (fun e => h3' e.symm) h2 h4
      · rcases hsup k' g hg' with ⟨h3, h4⟩ | ⟨h3, h3', h4⟩
        · exact hr.sep.dj k (.env t) g h1' h2 h4
        · exact hr.sep.dj k k' g hne h2 h4
    · rcases hsup k g hg with ⟨h1, h2⟩ | ⟨h1, h1', h2⟩
      · exact hr.own _ g h2
      · exact hr.own _ g h2

/-- What a call is handed. -/
def callO (o : Ow) (n : Nat) : Ow := fun k => match k with
  | .arg i => if i < n then o (.arg i) else []
  | .sto id => o (.sto id)
  | .env _ => []
theorem callO_sub (o : Ow) (n : Nat) (k : Key) (g : Nat) (h : g ∈ callO o n k) : g ∈ o k ∧ ∀ t, k ≠ .env t := by
  cases k with
  | arg i => simp only [callO] at h; split at h; exact ⟨h, by simp⟩; simp at h
  | sto id => exact ⟨h, by simp⟩
  | env t => simp [callO] at h

theorem ok_call {o : Oper} {q : Q} {x : Operand} {as : Array Operand} {ts : Array TypeId} {f : FuncId} {cs : List LV} {S' : List LV} {r : LV} (ho : o.op = .call { callee := .value x, args := as, argTypes := ts })
    (hx : ev q.E x = .fn f cs) (hen : Enters P f) (hc : LCalls P f ((takes as.toList q).1 ++ cs) q.S r S') : OpOk P q o r none { (takes as.toList q).2 with S := S' } := by
  intro fr a c hr next Qp hn
  obtain ⟨ow, hr⟩ := hr
  obtain ⟨Of, rf⟩ := hr.evo x
  rw [hx] at rf
  generalize hv : a.eval x = v at rf
  cases rf with
  | fn _ _ ccs hcs hcap =>
    obtain ⟨o1, h1⟩ := hr.takes as.toList
    simp only [List.nil_append] at h1
    have hlen : (takes as.toList q).1.length = as.toList.length := by have := h1.flyl; simpa using this.symm
    have hS : (takes as.toList q).2.S = q.S := by
      generalize as.toList = l
      have : ∀ (l : List Operand) (q : Q), (takes l q).2.S = q.S := by
        intro l
        induction l with
        | nil => intro q; rfl
        | cons x l ih => intro q; simp only [takes]; rw [ih]; cases x <;> rfl
      exact this l q
    have hrun : (execOp a.eval o).run P c.w = .ok (.enter f (as.map a.eval ++ ccs)) c.w := by
      simp [execOp, ho, resolve, hv, Deferred.ofValue, invoke]
      exact hen _ _
    have hvs : (as.toList.map a.eval ++ ccs.toList).toArray = as.map a.eval ++ ccs := by
      apply Array.ext'; simp
    have hcall := hc c (as.toList.map a.eval ++ ccs.toList) (callO o1 as.toList.length) (by simp [hlen, hcs]) (fun i hi => by
        by_cases h : i < as.toList.length
        · have h' : i < (takes as.toList q).1.length := by rw [hlen]; exact h
          rw [getD_app_lt _ _ _ _ h', getD_app_lt _ _ _ _ (by simpa using h)]
          simp only [callO, h, if_true]
          exact h1.fly i h'
        · have e1 : ((takes as.toList q).1 ++ cs).getD i .any = cs.getD (i - as.toList.length) .any := by
            simp only [List.getD_eq_getElem?_getD]
            rw [List.getElem?_append_right (by rw [hlen]; omega), hlen]
          have e2 : (as.toList.map a.eval ++ ccs.toList).getD i undef = ccs.getD (i - as.toList.length) undef := by
            simp only [List.getD_eq_getElem?_getD, Array.getD_eq_getD_getElem?]
            rw [List.getElem?_append_right (by simp; simpa using h)]
            simp
          rw [e1, e2]
          simp only [callO, h, if_false]
          refine hcap _ ?_
          rw [List.length_append, hlen] at hi; omega) ⟨by rw [← hS]; exact h1.sto.n, fun id hid => by rw [← hS]; exact h1.sto.r id (by rw [hS]; exact hid), h1.sto.bd⟩
      ⟨fun k => by
        cases k with
        | arg i => simp only [callO]; split; exact h1.sep.nd _; exact List.nodup_nil
        | sto id => exact h1.sep.nd _
        | env t => exact List.nodup_nil, fun k k' g hne hg hg' => h1.sep.dj k k' g hne (callO_sub _ _ _ _ hg).1 (callO_sub _ _ _ _ hg').1⟩ (fun k g hg => (h1.own k g (callO_sub _ _ _ _ hg).1).1)
    unfold Oper.wp
    rw [hrun]
    rw [hvs] at hcall
    refine Calls.mono hcall ?_
    rintro e w' ⟨c', v', o', rfl, rfl, hext, hrep, hsto, hsep, hown, henv⟩
    refine hn c' v' ?_ (fun _ _ h => by cases h)
    have hM : ∀ t g, g ∈ o1 (.env t) → ¬ ∃ k, g ∈ callO o1 as.toList.length k := fun t g hg ⟨k, hk⟩ => by
      obtain ⟨hk1, hk2⟩ := callO_sub _ _ _ _ hk
      exact h1.sep.dj (.env t) k g (fun e => hk2 t e.symm) hg hk1
    let o2 : Ow := fun k => match k with
      | .env t => o1 (.env t)
      | .sto id => o' (.sto id)
      | .arg i => if i = 0 then o' (.arg 0) else []
    have h2 : ∀ k g, g ∈ o2 k → (∃ t, k = .env t ∧ g ∈ o1 (.env t)) ∨ ((∀ t, k ≠ .env t) ∧ g ∈ o' k) := fun k g hg => by
      cases k with
      | env t => exact .inl ⟨t, rfl, hg⟩
      | sto id => exact .inr ⟨by simp, hg⟩
      | arg i =>
        simp only [o2] at hg
        split at hg
        · rename_i e; subst e; exact .inr ⟨by simp, hg⟩
        · simp at hg
    have hnew : ∀ t g k, g ∈ o1 (.env t) → g ∈ o' k → False := fun t g k hg hg' => by
      rcases (hown k g hg').2 with h | h
      · exact hM t g hg h
      · have := (h1.own (.env t) g hg).1; omega
    refine ⟨o2, h1.len, h1.alen, fun t ht => (h1.env t ht).ext hext (fun g hg => hM t g hg), h1.al, ⟨hsto.n, fun id hid => hsto.r id hid, hsto.bd⟩, fun i hi => ?_, rfl, ⟨fun k => ?_, fun k k' g hne hg hg' => ?_⟩, ?_, fun k g hg => ?_, h1.df⟩
    · have : i = 0 := by simp at hi; exact hi
      subst this; exact hrep
    · cases k with
      | env t => exact h1.sep.nd _
      | sto id => exact hsep.nd _
      | arg i => simp only [o2]; split; exact hsep.nd _; exact List.nodup_nil
    · rcases h2 k g hg with ⟨t, rfl, h3⟩ | ⟨h3, h3'⟩
      · rcases h2 k' g hg' with ⟨t', rfl, h4⟩ | ⟨h4, h4'⟩
        · exact h1.sep.dj _ _ g hne h3 h4
        · exact hnew t g k' h3 h4'
      · rcases h2 k' g hg' with ⟨t', rfl, h4⟩ | ⟨h4, h4'⟩
        · exact hnew t' g k h4 h3'
        · exact hsep.dj k k' g hne h3' h4'
    · refine h1.ext.trans hext (fun b hb ⟨k, hk⟩ => ?_)
      rcases (h1.own k b (callO_sub _ _ _ _ hk).1).2 with h | h
      · exact h
      · omega
    · rcases h2 k g hg with ⟨t, rfl, h3⟩ | ⟨h3, h3'⟩
      · exact ⟨Nat.lt_of_lt_of_le (h1.own _ g h3).1 hext.size, (h1.own _ g h3).2⟩
      · refine ⟨(hown k g h3').1, ?_⟩
        rcases (hown k g h3').2 with ⟨k', hk'⟩ | h
        · exact (h1.own k' g (callO_sub _ _ _ _ hk').1).2
        · exact .inr (Nat.le_trans h1.ext.size h)
end
end Go.Lm
