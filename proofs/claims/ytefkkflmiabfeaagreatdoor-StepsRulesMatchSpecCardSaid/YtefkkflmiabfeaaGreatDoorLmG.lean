/- Whole functions: a handler that is the interpreter's answer over a function's body keeps its promise. -/
import Derived.Test.YtefkkflmiabfeaaGreatDoorLmF
set_option linter.unusedVariables false
set_option linter.unusedSimpArgs false
namespace Go.Lm
section
variable {R : Type} {P : Program} {T : Nat → Option TI} {C : Nat → Hd R}

def initE (args : List LV) (n : Nat) : List LV := args ++ List.replicate (n - args.length) .any
/-- The results, each where it lies. -/
def cellV (T : Nat → Option TI) (t : Tmp) (ty : TypeId) (q : Q) : Option LV := match T ty, q.addr (.tmp t) with
  | some ti, some (d, p) => (match Nat.ble (p + ti.lk.length) (boxAt q.E d).length && Nat.blt 0 ti.lk.length && (isAggK ti.kd || Nat.beq ti.lk.length 1) with
    | true => some (part ti (boxAt q.E d) p)
    | false => none)
  | _, _ => none
def resQ (T : Nat → Option TI) : List ResultVar → Q → Option (List LV × Q)
  | [], q => some ([], q)
  | .tmp t :: rs, q => match resQ T rs (q.used (.tmp t)) with
    | some (l, q') => some (ev q.E (.tmp t) :: l, q')
    | none => none
  | .cell t ty :: rs, q => match cellV T t ty q, resQ T rs q with
    | some v, some (l, q') => some (v :: l, q')
    | _, _ => none
def pack : List LV → LV
  | [v] => v
  | vs => .tup vs
/-- What stands behind a function's body. -/
def fin (T : Nat → Option TI) (rs : List ResultVar) (K : LV → List LV → Option R) : LX → Q → Option R
  | .ext _, _ => none
  | _, q => match resQ T rs q with
    | some (l, q) => K (pack l) q.S
    | none => none
/-- The interpreter over a function. -/
noncomputable def lbody (T : Nat → Option TI) (C : Nat → Hd R) (an : An R) (fn : Func) : Hd R := fun args S K => match fn.body with
  | some code => lexec T C an code ⟨initE args fn.ntmps, List.replicate fn.ntmps none, S⟩ (fin T fn.results.toList K)
  | none => none

def unpack : List Value → Value
  | [v] => v
  | vs => .tuple vs.toArray
theorem resQ_S {T : Nat → Option TI} : ∀ {rs : List ResultVar} {q q' : Q} {l : List LV}, resQ T rs q = some (l, q') → q'.S = q.S ∧ l.length = rs.length
  | [], q, q', l, h => by cases h; exact ⟨rfl, rfl⟩
  | .tmp t :: rs, q, q', l, h => by
    simp only [resQ] at h
    split at h
    · rename_i l1 q1 h1
      cases h
      obtain ⟨e1, e2⟩ := resQ_S h1
      exact ⟨e1.trans rfl, by simp [e2]⟩
    · cases h
  | .cell t ty :: rs, q, q', l, h => by
    simp only [resQ] at h
    split at h
    · rename_i v l1 q1 _ h1
      cases h
      obtain ⟨e1, e2⟩ := resQ_S h1
      exact ⟨e1, by simp [e2]⟩
    · cases h
theorem RelO.noFly {fr : Fr} {q : Q} {a : Act} {c : Cx} {xs : List LV} {vs : List Value} {o : Ow} (h : RelO fr q a c xs vs o) : Rel fr q a c := by
  let o' : Ow := fun k => match k with
    | .arg _ => []
    | k => o k
  have sub : ∀ k g, g ∈ o' k → g ∈ o k := fun k g hg => by
    cases k with
    | arg i => simp [o'] at hg
    | env t => exact hg
    | sto id => exact hg
  exact ⟨o', h.len, h.alen, h.env, h.al, ⟨h.sto.n, h.sto.r, h.sto.bd⟩, fun i hi => absurd hi (by simp), rfl,
    ⟨fun k => by cases k with
      | arg i => exact List.nodup_nil
      | env t => exact h.sep.nd _
      | sto id => exact h.sep.nd _, fun k k' g hne hg hg' => h.sep.dj k k' g hne (sub k g hg) (sub k' g hg')⟩, h.ext, fun k g hg => h.own k g (sub k g hg), h.df⟩
/-- How a result is read. -/
def resF (tmps : Array Value) : ResultVar → Sem Value
  | .tmp t => pure (tmps.getD t undef)
  | .cell t ty => do loadVar ty (← asAddr (tmps.getD t undef))
theorem cellV_ok (hT : ∀ t ti, T t = some ti → tiOf P t = some ti) {t : Tmp} {ty : TypeId} {q : Q} {x : LV} (h : cellV T t ty q = some x) {fr : Fr} {a : Act} {c : Cx} {xs : List LV} {vs : List Value} {o : Ow} (hr : RelO fr q a c xs vs o) :
    ∃ v, (do loadVar ty (← asAddr (a.tmps.getD t undef)) : Sem Value).run P c.w = .ok v c.w ∧ Rep c x v [] := by
  unfold cellV at h
  split at h
  · rename_i ti d p ht ha
    split at h
    · rename_i hz
      simp only [Bool.and_eq_true, Bool.or_eq_true] at hz
      cases h
      have hb := Nat.le_of_ble_eq_true hz.1.1
      have hpos : 0 < ti.lk.length := Nat.le_of_ble_eq_true hz.1.2
      obtain ⟨i, dd, hi, hd, hkd, hlk, _⟩ := tiOf_und (hT _ _ ht)
      obtain ⟨_, g', h1, h2⟩ := Rel.addr hr.noFly ha
      obtain ⟨o, hr⟩ := hr.noFly
      obtain ⟨hdl, hbx, g, cur, e, hv, hO, hs, hh, hI, ho1, hrep⟩ := Rel.boxR (d := d) hr (by omega)
      rw [h1] at hv
      simp at hv
      subst hv
      have hcell : ∀ j, j < (boxAt q.E d).length → c.w.cell? ⟨g', j, none⟩ = some (cur.getD j undef) := fun j hj => by
        have : j < cur.size := by rw [hs]; exact hj
        simp [World.cell?, hh, this, Array.getD_eq_getD_getElem?]
      have h2 : a.tmps.getD t undef = .pointer (some ⟨g', p, none⟩) := h2
      unfold part
      cases hk : isAggK ti.kd with
      | true =>
        simp only
        refine ⟨.agg ((List.range i.size).map fun j => cur.getD (p + j) undef).toArray, ?_, ?_⟩
        · have := run_loadCells (P := P) c.w ⟨g', p, none⟩ i.size (fun j => cur.getD (p + j) undef) (fun j hj => by
            have hj' : j < ti.lk.length := by rw [hlk]; exact hj
            rw [Addr.add_lit]; exact hcell (p + j) (by omega))
          have h3 : (isAgg ty).run P c.w = .ok true c.w := by
            rcases isAggK_of (by rw [← hkd]; exact hk) with ⟨fs, rfl⟩ | ⟨n, e, rfl⟩ <;> simp [isAgg, run_underlying hd]
          simp [h2, asAddr, loadVar, h3, this, sizeOf, typeInfo, hi]
        · have hlen : ((boxAt q.E d).drop p |>.take ti.lk.length).length = ti.lk.length := by simp; omega
          refine .agg _ _ (by rw [hlen]; simp [hlk]) (fun j hj => ?_)
          rw [hlen] at hj
          rw [getD_range_map _ (by rw [← hlk]; exact hj), getD_part _ _ _ _ hj]
          exact hrep (p + j) (by omega)
      | false =>
        simp only
        have h3 : (isAgg ty).run P c.w = .ok false c.w := by
          rw [hkd] at hk
          cases dd <;> simp [kdOf, isAggK] at hk <;> simp [isAgg, run_underlying hd]
        refine ⟨cur.getD p undef, ?_, hrep p (by omega)⟩
        simp [h2, asAddr, loadVar, h3, hcell p (by omega)]
    · cases h
  · cases h
theorem resQ_ok (hT : ∀ t ti, T t = some ti → tiOf P t = some ti) : ∀ {rs : List ResultVar} {q q' : Q} {l : List LV}, resQ T rs q = some (l, q') → ∀ {fr : Fr} {a : Act} {c : Cx} {xs : List LV} {vs : List Value} {o : Ow}, RelO fr q a c xs vs o →
    ∃ us o', RelO fr q' a c (xs ++ l) (vs ++ us) o' ∧ us.length = l.length ∧ (rs.mapM (resF a.tmps)).run P c.w = .ok us c.w
  | [], q, q', l, h, fr, a, c, xs, vs, o, hr => by cases h; exact ⟨[], o, by simpa using hr, rfl, by simp⟩
  | .tmp t :: rs, q, q', l, h, fr, a, c, xs, vs, o, hr => by
    simp only [resQ] at h
    split at h
    · rename_i l1 q1 h1
      cases h
      obtain ⟨o1, hr1⟩ := hr.take (.tmp t)
      obtain ⟨us, o2, hr2, hl, hm⟩ := resQ_ok hT h1 hr1
      refine ⟨a.tmps.getD t undef :: us, o2, by simpa [Act.eval] using hr2, by simp [hl], ?_⟩
      rw [List.mapM_cons]
      simp only [resF, Sem.run_bind, Sem.run_pure, Result.andThen_ok]
      rw [hm]
      simp
    · cases h
  | .cell t ty :: rs, q, q', l, h, fr, a, c, xs, vs, o, hr => by
    simp only [resQ] at h
    split at h
    · rename_i v l1 q1 hv h1
      cases h
      obtain ⟨u, hu, hrep⟩ := cellV_ok (P := P) hT hv hr
      obtain ⟨o1, hr1⟩ := hr.fly1 hrep
      obtain ⟨us, o2, hr2, hl, hm⟩ := resQ_ok hT h1 hr1
      refine ⟨u :: us, o2, by simpa using hr2, by simp [hl], ?_⟩
      rw [List.mapM_cons]
      have hu : (resF a.tmps (.cell t ty)).run P c.w = .ok u c.w := hu
      simp only [Sem.run_bind]
      rw [hu]
      simp only [Result.andThen_ok]
      rw [hm]
      simp
    · cases h
theorem run_results {fn : Func} {tmps : Array Value} {w : World} {us : List Value} (h : (fn.results.toList.mapM (resF tmps)).run P w = .ok us w) :
    (results fn tmps).run P w = .ok (unpack us) w := by
  unfold results
  rw [Array.mapM_eq_mapM_toList]
  simp only [Sem.run_bind, Sem.run_map]
  show (((Sem.run P (List.mapM (resF tmps) fn.results.toList) w).andThen _).andThen _) = _
  rw [h]
  simp only [Result.andThen_ok, Sem.run_pure]
  congr 1
  match us with
  | [] => rfl
  | [t] => rfl
  | t :: t' :: ts => simp [unpack]

theorem rep_pack {c : Cx} {xs : List LV} {vs : List Value} {os : Nat → List Nat} (hl : vs.length = xs.length) (hr : ∀ i, i < xs.length → Rep c (xs.getD i .any) (vs.getD i undef) (os i)) :
    ∃ O, Rep c (pack xs) (unpack vs) O ∧ ((∀ i, i < xs.length → (os i).Nodup) → (∀ i j g, i < xs.length → j < xs.length → i ≠ j → g ∈ os i → g ∉ os j) → O.Nodup) ∧ ∀ g, g ∈ O → ∃ i, i < xs.length ∧ g ∈ os i := by
  have tupcase : ∀ (xs : List LV) (vs : List Value), vs.length = xs.length → (∀ i, i < xs.length → Rep c (xs.getD i .any) (vs.getD i undef) (os i)) → Rep c (.tup xs) (.tuple vs.toArray) (flatO xs.length os) := fun xs vs hl hr =>
    .tup xs vs.toArray os (by simp [hl]) (fun i hi => by
      have := hr i hi
      have hi' : i < vs.length := by omega
      simpa [List.getD_eq_getElem?_getD, Array.getD_eq_getD_getElem?, hi'] using this)
  match xs, vs, hl, hr with
  | [], [], hl, hr => exact ⟨_, tupcase [] [] hl hr, fun h1 h2 => flatO_nd_mk h1 h2, fun g hg => flatO_mem.1 hg⟩
  | [x], [v], hl, hr => exact ⟨os 0, (show Rep c x v (os 0) by simpa using hr 0 (by simp)), fun h1 _ => h1 0 (by simp), fun g hg => ⟨0, by simp, hg⟩⟩
  | x :: y :: xs, v :: u :: vs, hl, hr => exact ⟨_, tupcase _ _ hl hr, fun h1 h2 => flatO_nd_mk h1 h2, fun g hg => flatO_mem.1 hg⟩

theorem lbody_ok (hT : ∀ t ti, T t = some ti → tiOf P t = some ti) (hC : ∀ f, HSound P f (C f)) {an : An R} {f : FuncId} {fn : Func} (han : ∀ code, fn.body = some code → AnOk P an code) (hf : P.funcs[f]? = some fn) (hen : Enters P f) : HSound P f (lbody (R := R) T C an fn) := by
  intro args S K r h
  refine ⟨hen, ?_⟩
  unfold lbody at h
  split at h
  · rename_i code hb
    obtain ⟨x, q', h, hcode⟩ := lexec_ok hT hC an code (han code hb) _ _ r h
    have hx : (x = .nrm ∨ x = .ret) ∧ ∃ l q1, resQ T fn.results.toList q' = some (l, q1) ∧ K (pack l) q1.S = some r := by
      cases x with
      | ext id => simp [fin] at h
      | nrm =>
        simp only [fin] at h
        split at h
        · rename_i l q1 hos; exact ⟨.inl rfl, l, q1, hos, h⟩
        · cases h
      | ret =>
        simp only [fin] at h
        split at h
        · rename_i l q1 hos; exact ⟨.inr rfl, l, q1, hos, h⟩
        · cases h
    obtain ⟨hxx, l, q1, hos, hK⟩ := hx
    obtain ⟨hS, hll⟩ := resQ_S hos
    refine ⟨_, _, fun c vs o hvl hvr hsto hsep hlt => ?_, hK⟩
    let fr : Fr := ⟨c, fun g => ∃ k, g ∈ o k⟩
    let o0 : Ow := fun k => match k with
      | .env t => if t < args.length then o (.arg t) else []
      | .sto id => o (.sto id)
      | .arg _ => []
    have hsub : ∀ k g, g ∈ o0 k → ∃ k', g ∈ o k' ∧ ((∃ t, k = .env t ∧ k' = .arg t) ∨ ∃ id, k = .sto id ∧ k' = .sto id) := fun k g hg => by
      cases k with
      | env t =>
        simp only [o0] at hg
        split at hg
        · exact ⟨.arg t, hg, .inl ⟨t, rfl, rfl⟩⟩
        · simp at hg
      | sto id => exact ⟨.sto id, hg, .inr ⟨id, rfl, rfl⟩⟩
      | arg i => simp [o0] at hg
    have hrel : Rel fr ⟨initE args fn.ntmps, List.replicate fn.ntmps none, S⟩ { tmps := vs.toArray ++ Array.replicate (fn.ntmps - vs.toArray.size) undef, defers := [] } c := by
      refine ⟨o0, by simp [initE, hvl], by simp [initE]; omega, fun t ht => ?_, fun t d p hp => ?_, ⟨hsto.n, hsto.r, hsto.bd⟩, fun i hi => absurd hi (by simp), rfl, ⟨fun k => ?_, fun k k' g hne hg hg' => ?_⟩, Ext.refl _ _, fun k g hg => ?_, rfl⟩
      · by_cases h1 : t < args.length
        · have e1 : (initE args fn.ntmps).getD t .any = args.getD t .any := by unfold initE; exact getD_app_lt _ _ _ _ h1
          have e2 : (vs.toArray ++ Array.replicate (fn.ntmps - vs.toArray.size) undef).getD t undef = vs.getD t undef := by
            have : t < vs.length := by omega
            simp [Array.getD_eq_getD_getElem?, List.getD_eq_getElem?_getD, Array.getElem?_append, this]
          show Rep c ((initE args fn.ntmps).getD t .any) _ _
          rw [e1]
          show Rep c _ ((vs.toArray ++ Array.replicate (fn.ntmps - vs.toArray.size) undef).getD t undef) _
          rw [e2]
          simp only [o0, h1, if_true]
          exact hvr t h1
        · have e1 : (initE args fn.ntmps).getD t .any = .any := by
            unfold initE
            simp only [List.getD_eq_getElem?_getD]
            rw [List.getElem?_append_right (by omega), List.getElem?_replicate]
            split <;> rfl
          show Rep c ((initE args fn.ntmps).getD t .any) _ _
          rw [e1]
          simp only [o0, h1, if_false]
          exact .any _
      · simp only [List.getD_eq_getElem?_getD, List.getElem?_replicate] at hp
        split at hp <;> simp at hp
      · cases k with
        | env t => simp only [o0]; split; exact hsep.nd _; exact List.nodup_nil
        | sto id => exact hsep.nd _
        | arg i => exact List.nodup_nil
      · obtain ⟨k1, h1, h1'⟩ := hsub k g hg
        obtain ⟨k2, h2, h2'⟩ := hsub k' g hg'
        refine hsep.dj k1 k2 g (fun e => ?_) h1 h2
        rcases h1' with ⟨t, rfl, rfl⟩ | ⟨id, rfl, rfl⟩ <;> rcases h2' with ⟨t', rfl, rfl⟩ | ⟨id', rfl, rfl⟩ <;> simp at e
        · exact hne (by rw [e])
        · exact hne (by rw [e])
      · obtain ⟨k1, h1, _⟩ := hsub k g hg
        exact ⟨hlt k1 g h1, .inl ⟨k1, h1⟩⟩
    refine calls_of_wp hf hb (hcode fr _ c hrel _ fun a' c' hr' => ?_)
    have hfin : a'.defers = [] ∧ ∃ v, (results fn a'.tmps).run P c'.w = .ok v c'.w ∧ ∃ c'' v' o', (Ending.returned v) = .returned v' ∧ c''.w = c'.w ∧ Ext c c'' (fun g => ∃ k, g ∈ o k) ∧ Rep c'' (pack l) v' (o' (.arg 0)) ∧ Sto c'' q1.S o' ∧ Sep o' ∧
        (∀ k g, g ∈ o' k → g < c'.w.heap.size ∧ ((∃ k', g ∈ o k') ∨ c.w.heap.size ≤ g)) ∧ ∀ t, o' (.env t) = [] := by
      obtain ⟨ow, hr'⟩ := hr'
      obtain ⟨us, o1, h1, hlu, hm⟩ := resQ_ok hT hos hr'
      simp only [List.nil_append] at h1
      obtain ⟨O, hrep, hnd, hmem⟩ := rep_pack (os := fun i => o1 (.arg i)) h1.flyl h1.fly
      let o' : Ow := fun k => match k with
        | .env _ => []
        | .sto id => o1 (.sto id)
        | .arg i => if i = 0 then O else []
      have hO' : ∀ k g, g ∈ o' k → ∃ k', g ∈ o1 k' ∧ ((k = .arg 0 ∧ ∃ i, k' = .arg i) ∨ ∃ id, k = .sto id ∧ k' = .sto id) := fun k g hg => by
        cases k with
        | env t => simp [o'] at hg
        | sto id => exact ⟨.sto id, hg, .inr ⟨id, rfl, rfl⟩⟩
        | arg i =>
          simp only [o'] at hg
          split at hg
          · rename_i e
            subst e
            obtain ⟨j, _, hj⟩ := hmem g hg
            exact ⟨.arg j, hj, .inl ⟨rfl, j, rfl⟩⟩
          · simp at hg
      refine ⟨h1.df, _, run_results hm, c', _, o', rfl, rfl, h1.ext, hrep, ⟨h1.sto.n, fun id hid => h1.sto.r id hid, h1.sto.bd⟩, ⟨fun k => ?_, fun k k' g hne hg hg' => ?_⟩, fun k g hg => ?_, fun t => rfl⟩
      · cases k with
        | env t => exact List.nodup_nil
        | sto id => exact h1.sep.nd _
        | arg i =>
          simp only [o']
          split
          · exact hnd (fun i _ => h1.sep.nd _) (fun i j g _ _ hne hg => h1.sep.dj _ _ g (by simp [hne]) hg)
          · exact List.nodup_nil
      · obtain ⟨k1, hk1, hk1'⟩ := hO' k g hg
        obtain ⟨k2, hk2, hk2'⟩ := hO' k' g hg'
        refine h1.sep.dj k1 k2 g (fun e => ?_) hk1 hk2
        rcases hk1' with ⟨rfl, i, rfl⟩ | ⟨id, rfl, rfl⟩ <;> rcases hk2' with ⟨rfl, i', rfl⟩ | ⟨id', rfl, rfl⟩ <;> simp at e
        · exact hne rfl
        · exact hne (by rw [e])
      · obtain ⟨k1, hk1, _⟩ := hO' k g hg
        exact h1.own k1 g hk1
    obtain ⟨hdf, v, hrun, c'', v', o', h2⟩ := hfin
    have hw : c''.w = c'.w := h2.2.1
    rcases hxx with rfl | rfl
    · exact ⟨hdf, v, hrun, c'', v', o', h2⟩
    · exact ⟨hdf, v, hrun, c'', v', o', h2⟩
  · cases h

/-! ### Handlers in their typed form, and tables of them -/

open Classical in
/-- Arguments may be taken for others of their shapes. -/
theorem LCalls.co {f : FuncId} {args S S' : List LV} {r : LV} {m : Mk} (h : LCalls P f (m.co args) S r S') : LCalls P f args S r S' := by
  intro c vs o hl hr hsto hsep hlt
  let o' : Ow := fun k => match k with
    | .arg t => if Rep c ((m.co args).getD t .any) (vs.getD t undef) (o (.arg t)) then o (.arg t) else []
    | k => o k
  have sub : ∀ k g, g ∈ o' k → g ∈ o k := fun k g hg => by
    cases k with
    | arg t => simp only [o'] at hg; split at hg; exact hg; simp at hg
    | sto id => exact hg
    | env i => exact hg
  refine (h c vs o' (by rw [co_len]; exact hl) (fun i hi => ?_) ⟨hsto.n, hsto.r, hsto.bd⟩ ⟨fun k => ?_, fun k k' g hne hg hg' => hsep.dj k k' g hne (sub k g hg) (sub k' g hg')⟩ (fun k g hg => hlt k g (sub k g hg))).mono ?_
  · rw [co_len] at hi
    simp only [o']
    split
    · assumption
    · rename_i hn
      rcases co_rep (m := m) (hr i hi) with h1 | h1
      · exact absurd h1 hn
      · exact h1
  · cases k with
    | arg t => simp only [o']; split <;> simp [hsep.nd]
    | sto id => exact hsep.nd _
    | env i => exact hsep.nd _
  · rintro e w' ⟨c', v, o1, he, hw, hext, hrep, hs, hsp, hown, henv⟩
    exact ⟨c', v, o1, he, hw, hext.mono (fun b ⟨k, hb⟩ => ⟨k, sub k b hb⟩), hrep, hs, hsp, fun k g hg => ⟨(hown k g hg).1, (hown k g hg).2.elim (fun ⟨k', hk⟩ => .inl ⟨k', sub k' g hk⟩) .inr⟩, henv⟩

def hT (ps : Mk) (f : ps.ty → List LV → (LV → List LV → Option R) → Option R) : Hd R := fun args S K =>
  match Nat.beq args.length ps.length with
  | true => (match ps.dec (ps.co args) with
    | some x => f x S K
    | none => none)
  | false => none
theorem hT_ok {f : FuncId} {hd : Hd R} {ps : Mk} {g : ps.ty → List LV → (LV → List LV → Option R) → Option R} (h : HSound P f hd) (he : ∀ x S K, hd (ps.enc x) S K = g x S K) : HSound P f (hT ps g) := by
  intro args S K r h1
  unfold hT at h1
  split at h1
  · split at h1
    · rename_i x hx
      rw [← he, ← Mk.dec_enc ps _ x hx] at h1
      obtain ⟨hen, v, S', hc, hk⟩ := h _ S K r h1
      exact ⟨hen, v, S', hc.co, hk⟩
    · cases h1
  · cases h1
/-- Results as one value. -/
def resE (m : Mk) (x : m.ty) : LV := pack (m.enc x)

def tabC : List (Nat × Hd R) → Nat → Hd R
  | [], _ => fun _ _ _ => none
  | (g, h) :: l, f => match Nat.beq f g with
    | true => h
    | false => tabC l f
def TabC (P : Program) {R : Type} : List (Nat × Hd R) → Prop
  | [] => True
  | (g, h) :: l => HSound P g h ∧ TabC P l
theorem tabC_ok : ∀ {l : List (Nat × Hd R)}, TabC P l → ∀ f, HSound P f (tabC l f)
  | [], _, f => fun args S K r h => by simp [tabC] at h
  | (g, h) :: l, hl, f => by
    unfold tabC
    split
    · rename_i e; have := Nat.eq_of_beq_eq_true e; subst this; exact hl.1
    · exact tabC_ok hl.2 f
def tabT (l : List (Option TI)) (t : Nat) : Option TI := l.getD t none
def TabT (P : Program) : Nat → List (Option TI) → Prop
  | _, [] => True
  | n, none :: l => TabT P (n + 1) l
  | n, some ti :: l => tiOf P n = some ti ∧ TabT P (n + 1) l
theorem tabT_ok' : ∀ {l : List (Option TI)} {n : Nat}, TabT P n l → ∀ t ti, l.getD t none = some ti → tiOf P (n + t) = some ti
  | [], n, _, t, ti, h => by simp at h
  | none :: l, n, hl, 0, ti, h => by simp at h
  | none :: l, n, hl, t + 1, ti, h => by
    have := tabT_ok' (n := n + 1) hl t ti (by simpa using h)
    rwa [show n + 1 + t = n + (t + 1) by omega] at this
  | some _ :: l, n, hl, 0, ti, h => by
    simp only [List.getD_cons_zero, Option.some.injEq] at h
    subst h; exact hl.1
  | some _ :: l, n, hl, t + 1, ti, h => by
    have := tabT_ok' (n := n + 1) hl.2 t ti (by simpa using h)
    rwa [show n + 1 + t = n + (t + 1) by omega] at this
theorem tabT_ok {l : List (Option TI)} (h : TabT P 0 l) (t : Nat) (ti : TI) (ht : tabT l t = some ti) : tiOf P t = some ti := by
  have := tabT_ok' h t ti ht
  rwa [Nat.zero_add] at this
/-- The handler of a function by its body. -/
theorem fn_ok {T : Nat → Option TI} {C : Nat → Hd R} (hT : ∀ t ti, T t = some ti → tiOf P t = some ti) (hC : ∀ f, HSound P f (C f)) {an : An R} {f : FuncId} {fn : Func} (code : Code) (hb : fn.body = some code) (han : AnOk P an code)
    (hf : P.funcs[f]? = some fn) (hen : Enters P f) {ps : Mk} {g : ps.ty → List LV → (LV → List LV → Option R) → Option R}
    (he : ∀ x S K, lbody T C an fn (ps.enc x) S K = g x S K) : HSound P f (Lm.hT ps g) :=
  hT_ok (lbody_ok hT hC (fun c hc => by rw [hb] at hc; cases hc; exact han) hf hen) he

/-- A piece of code by the way to it. -/
def sub : Code → List Bool → Code
  | c, [] => c
  | .seq a _, false :: p => sub a p
  | .seq _ b, true :: p => sub b p
  | .block _ c, _ :: p => sub c p
  | .loop c, _ :: p => sub c p
  | .cond _ a _, false :: p => sub a p
  | .cond _ _ b, true :: p => sub b p
  | c, _ => c
def bs (l : List Nat) : ByteArray := ⟨(l.map UInt8.ofNat).toArray⟩
theorem enters_ok {f : FuncId} {fn : Func} (hf : P.funcs[f]? = some fn) (hname : (fn.name == "runtime.NumGoroutine") = false) (hb : fn.body.isSome = true) : Enters P f := fun args w => by
  have h1 : fn.name ≠ "runtime.NumGoroutine" := by simpa using hname
  obtain ⟨c, hc⟩ := Option.isSome_iff_exists.1 hb
  simp [callFunc, hf, h1, hc]
end
end Go.Lm
