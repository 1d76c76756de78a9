/- States, masks, regions in their own order. -/
import Derived.Test.YtefkkflmiabfeaaGreatDoorLmEa
import Derived.Orders
set_option linter.unusedVariables false
set_option linter.unusedSimpArgs false
namespace Go.Lm
section
variable {R : Type} {P : Program} {T : Nat → Option TI} {C : Nat → Hd R}
/-- What is known of a slot may be put in its place. -/
theorem RelO.know {fr : Fr} {q : Q} {a : Act} {c : Cx} {o : Ow} (h : RelO fr q a c [] [] o) (d : Nat) (b : Bool) (hd : q.E.getD d .any = .bool b) : RelO fr { q with E := q.E.set d (.bool b) } a c [] [] o := by
  have he : q.E.set d (.bool b) = q.E := by
    rcases Nat.lt_or_ge d q.E.length with h1 | h1
    · have : q.E[d] = .bool b := by simpa [List.getD_eq_getElem?_getD, h1] using hd
      rw [← this]; exact List.set_getElem_self h1
    · exact List.set_eq_of_length_le h1
  rw [he]; exact h

theorem Rel.put {fr : Fr} {q : Q} {a : Act} {c : Cx} {x : LV} {v : Value} (h : RelX fr q a c [x] [v]) (d : Option Tmp)
    (al : Option (Nat × Nat)) (hal : ∀ e p, al = some (e, p) → e < q.E.length ∧ ∃ g, a.tmps.getD e undef = .pointer (some ⟨g, 0, none⟩) ∧ v = .pointer (some ⟨g, p, none⟩)) :
    Rel fr (q.put d x al) (a.put d v) c := by
  obtain ⟨o, h⟩ := h
  exact h.put d al hal

theorem rep_und {c : Cx} {v : Value} {O : List Nat} (h : Rep c .und v O) : v = undef := by cases h; rfl
theorem wanted_some {ops : Array Oper} {q : Q} {o : Oper} {K : Bool → Q → Option R} {r : R} (h : wanted ops q o K = some r) :
    ∃ b q', K b q' = some r ∧ ∀ {fr : Fr} {a : Act} {c : Cx}, Rel fr q a c → Rel fr q' a c ∧ Region.wanted o (yielded ops a.tmps) = b := by
  unfold wanted at h
  unfold Region.wanted
  split at h
  · rename_i hg
    rw [hg]
    exact ⟨true, q, h, fun hr => ⟨hr, rfl⟩⟩
  · rename_i j want hg
    rw [hg]
    simp only [setK_eq] at h
    split at h
    · rename_i d hd
      have rep : ∀ {fr : Fr} {a : Act} {c : Cx} {x : LV}, q.E.getD d .any = x → one x = true ∨ x = .und → Rel fr q a c → ∃ O, Rep c x (a.tmps.getD d undef) O := by
        intro fr a c x hx h1 hr
        obtain ⟨ow, hr⟩ := hr
        by_cases hlt : d < q.E.length
        · exact ⟨_, hx ▸ hr.env d hlt⟩
        · have : x = .any := by rw [← hx]; simp [List.getD_eq_getElem?_getD, List.getElem?_eq_none (Nat.le_of_not_lt hlt)]
          subst this; simp [one] at h1
      split at h
      rotate_left
      · rename_i hb
        refine ⟨false, q, h, fun {fr a c} hr => ⟨hr, ?_⟩⟩
        obtain ⟨O, hrep⟩ := rep hb (.inr rfl) hr
        have hz : a.tmps.getD d undef = undef := rep_und hrep
        have hy : yielded ops a.tmps j = none := by
          unfold yielded
          rw [hd]
          rw [Array.getD_eq_getD_getElem?] at hz
          cases hq : a.tmps[d]? with
          | none => simp [hq]
          | some u => rw [hq] at hz; simp at hz; simp [hq, hz, undef]
        simp only [hy]; cases want <;> rfl
      · cases h
      rename_i b hb
      have key : ∀ {fr : Fr} {a : Act} {c : Cx}, Rel fr q a c → yielded ops a.tmps j = some b := by
        intro fr a c hr
        obtain ⟨O, hrep⟩ := rep hb (.inl rfl) hr
        have hv : a.tmps[d]? = some (.bool b) := by
          have hz := rep_bool hrep
          rw [Array.getD_eq_getD_getElem?] at hz
          cases hq : a.tmps[d]? with
          | none => rw [hq] at hz; simp [undef] at hz
          | some u => rw [hq] at hz; simp at hz; rw [hz]
        unfold yielded
        rw [hd]
        simp [hv]
      rcases ifB_some h with ⟨rfl, h⟩ | ⟨rfl, h⟩
      · refine ⟨want, _, h, fun hr => ?_⟩
        have hy := key hr
        obtain ⟨ow, hr⟩ := hr
        refine ⟨⟨ow, hr.know d true hb⟩, ?_⟩
        simp only [hy]; cases want <;> rfl
      · refine ⟨!want, _, h, fun hr => ?_⟩
        have hy := key hr
        obtain ⟨ow, hr⟩ := hr
        refine ⟨⟨ow, hr.know d false hb⟩, ?_⟩
        simp only [hy]; cases want <;> rfl
    · cases h

theorem RelO.flyUnd {fr : Fr} {q : Q} {a : Act} {c : Cx} (h : Rel fr q a c) : RelX fr q a c [.und] [undef] := by
  obtain ⟨o, h⟩ := h
  exact h.fly1 .und

theorem runOps_ok (hT : ∀ t ti, T t = some ti → tiOf P t = some ti) (hC : ∀ f, HSound P f (C f)) {ops : Array Oper} {K : Q → Option R} {r : R} :
    ∀ (os : List Oper) (is : List Nat), os.map some = is.map (ops[·]?) → ∀ (q : Q), runOps T C ops os q K = some r →
      ∃ q', K q' = some r ∧ ∀ {fr : Fr} {a : Act} {c : Cx}, Rel fr q a c → ∀ {Qp : Exit → Act → World → Prop}, (∀ a' c', Rel fr q' a' c' → Qp .normal a' c'.w) → wpOps P ops Qp is a c.w
  | [], [], _, q, h => ⟨q, h, fun hr _ hQ => hQ _ _ hr⟩
  | [], _ :: _, he, _, _ => by simp at he
  | _ :: _, [], he, _, _ => by simp at he
  | o :: os, i :: is, he, q, h => by
    simp only [List.map_cons, List.cons.injEq] at he
    have ih := runOps_ok hT hC (K := K) (r := r) os is he.2
    simp only [runOps, Q.putK_eq] at h
    obtain ⟨b, q1, h, hw⟩ := wanted_some h
    cases b with
    | true =>
      simp only at h
      obtain ⟨x, al, q2, h, hop⟩ := lop_ok hT hC o q1 _ r h
      obtain ⟨q', h, hrest⟩ := ih _ h
      refine ⟨q', h, fun {fr a c} hr {Qp} hQ => ?_⟩
      obtain ⟨hr1, hw⟩ := hw hr
      unfold wpOps
      rw [← he.1]
      simp only [hw, if_true]
      exact .inl (hop fr a c hr1 _ _ fun c' v hx hal => hrest (Rel.put hx o.dst al hal) hQ)
    | false =>
      simp only at h
      obtain ⟨q', h, hrest⟩ := ih _ h
      refine ⟨q', h, fun {fr a c} hr {Qp} hQ => ?_⟩
      obtain ⟨hr1, hw⟩ := hw hr
      unfold wpOps
      rw [← he.1]
      simp only [hw]
      exact hrest (Rel.put (RelO.flyUnd hr1) o.dst none (fun _ _ h => by cases h)) hQ

theorem Rep.coLeaf {c : Cx} {x : LV} {v : Value} {O : List Nat} (s : LS) (r : Rep c x v O) : Rep c (s.co x) v O ∨ Rep c (s.co x) v [] := by
  cases s <;> cases x <;> try exact .inl r
  · cases r; exact .inr (.sl0 _ none 0 (fun _ => rfl))
  · exact .inr r.dup
  · cases r; exact .inr (by assumption)
  · cases r; exact .inl (.own0 _ _)
theorem Rep.coLeaf' {c : Cx} {x : LV} {v : Value} (s : LS) (r : Rep c x v []) : Rep c (s.co x) v [] := (r.coLeaf s).elim id id
theorem coL_len : ∀ (l : List LS) (xs : List LV), (coL l xs).length = xs.length
  | l, [] => by cases l <;> rfl
  | [], x :: xs => rfl
  | s :: l, x :: xs => by simp [coL, coL_len l xs]
theorem coL_get : ∀ (l : List LS) (xs : List LV) (i : Nat), (coL l xs).getD i .any = xs.getD i .any ∨ ∃ s : LS, (coL l xs).getD i .any = s.co (xs.getD i .any)
  | l, [], i => by cases l <;> exact .inl rfl
  | [], x :: xs, i => .inl rfl
  | s :: l, x :: xs, 0 => .inr ⟨s, rfl⟩
  | s :: l, x :: xs, i + 1 => by simpa [coL] using coL_get l xs i
theorem coL_rep {c : Cx} {l : List LS} {xs : List LV} {v : Value} {i : Nat} (r : Rep c (xs.getD i .any) v []) : Rep c ((coL l xs).getD i .any) v [] := by
  rcases coL_get l xs i with h | ⟨s, h⟩
  · rw [h]; exact r
  · rw [h]; exact r.coLeaf' s
theorem Rep.co {c : Cx} {x : LV} {v : Value} {O : List Nat} (s : SH) (r : Rep c x v O) : Rep c (s.co x) v O ∨ Rep c (s.co x) v [] := by
  cases s with
  | lf s => exact r.coLeaf s
  | agg l =>
    cases r <;> first | (left; constructor <;> assumption) | skip
    rename_i xs cs hs hr
    exact .inl (.agg _ cs (by rw [hs, coL_len]) (fun i hi => coL_rep (hr i (by rwa [coL_len] at hi))))
  | lbox l =>
    cases r <;> first | (left; constructor <;> assumption) | skip
    rename_i xs g cur e hs hh hI h1 hr
    exact .inl (.lbox _ g cur e (by rw [hs, coL_len]) hh hI h1 (fun i hi => coL_rep (hr i (by rwa [coL_len] at hi))))
  | fn f l => exact .inl r
theorem co_len : ∀ (m : Mk) (E : List LV), (m.co E).length = E.length
  | m, [] => by rcases m with _ | ⟨_ | s, m⟩ <;> rfl
  | [], _ :: E => by simp [Mk.co, co_len [] E]
  | none :: m, _ :: E => by simp [Mk.co, co_len m E]
  | some s :: m, _ :: E => by simp [Mk.co, co_len m E]
theorem co_get : ∀ (m : Mk) (E : List LV) (t : Nat), (m.co E).getD t .any = .any ∨ ∃ s : SH, (m.co E).getD t .any = s.co (E.getD t .any)
  | m, [], t => .inl (by rcases m with _ | ⟨_ | s, m⟩ <;> rfl)
  | [], _ :: E, 0 => .inl rfl
  | [], _ :: E, t + 1 => by simpa [Mk.co] using co_get [] E t
  | none :: m, _ :: E, 0 => .inl rfl
  | none :: m, _ :: E, t + 1 => by simpa [Mk.co] using co_get m E t
  | some s :: m, _ :: E, 0 => .inr ⟨s, rfl⟩
  | some s :: m, _ :: E, t + 1 => by simpa [Mk.co] using co_get m E t
theorem co_rep {c : Cx} {m : Mk} {E : List LV} {t : Nat} {v : Value} {O : List Nat} (r : Rep c (E.getD t .any) v O) : Rep c ((m.co E).getD t .any) v O ∨ Rep c ((m.co E).getD t .any) v [] := by
  rcases co_get m E t with h | ⟨s, h⟩
  · rw [h]; exact .inr (.any _)
  · rw [h]; exact r.co s

open Classical in
theorem Rel.mask {fr : Fr} {q : Q} {a : Act} {c : Cx} (h : Rel fr q a c) (m : Mk) : Rel fr (q.mask m) a c := by
  obtain ⟨o, h⟩ := h
  have hlen : (q.mask m).E.length = q.E.length := by simp [Q.mask, co_len]
  let o' : Ow := fun k => match k with
    | .env t => if Rep c ((q.mask m).E.getD t .any) (a.tmps.getD t undef) (o (.env t)) then o (.env t) else []
    | k => o k
  have sub : ∀ k g, g ∈ o' k → g ∈ o k := fun k g hg => by
    cases k with
    | env t => simp only [o'] at hg; split at hg; exact hg; simp at hg
    | sto id => exact hg
    | arg i => exact hg
  refine ⟨o', ?_, ?_, fun t ht => ?_, fun t d p hp => ?_, ⟨h.sto.n, h.sto.r, h.sto.bd⟩, fun i hi => absurd hi (by simp), rfl, ⟨fun k => ?_, fun k k' g hne hg hg' => h.sep.dj k k' g hne (sub k g hg) (sub k' g hg')⟩, h.ext, fun k g hg => h.own k g (sub k g hg), h.df⟩
  · rw [hlen]; exact h.len
  · rw [hlen]; simp [Q.mask]
  · rw [hlen] at ht
    simp only [o']
    split
    · assumption
    · rename_i hn
      rcases co_rep (m := m) (h.env t ht) with h1 | h1
      · exact absurd h1 hn
      · exact h1
  · simp only [Q.mask, List.getD_eq_getElem?_getD, List.getElem?_replicate] at hp
    split at hp <;> simp at hp
  · cases k with
    | env t => simp only [o']; split <;> simp [h.sep.nd]
    | sto id => exact h.sep.nd _
    | arg i => exact h.sep.nd _

theorem getD_drop_take (xs : List LV) (o n i : Nat) (hi : i < n) : ((xs.drop o).take n).getD i .any = xs.getD (o + i) .any := getD_part xs o n i hi
theorem chunks_len (z n : Nat) (xs : List LV) (h : n * z = xs.length) : (chunks z n xs).length = n := by
  unfold chunks
  split
  · rename_i e; have := Nat.eq_of_beq_eq_true e; subst this; simp; omega
  · simp
theorem chunks_leaf (z n : Nat) (xs : List LV) (hz : 0 < z) (h : n * z = xs.length) (p : Nat) (hp : p < n * z) : leaf ((chunks z n xs).getD (p / z) .any) (p % z) = dupL (xs.getD p .any) ∨ leaf ((chunks z n xs).getD (p / z) .any) (p % z) = .any := by
  unfold chunks
  split
  · rename_i e
    have := Nat.eq_of_beq_eq_true e; subst this
    rw [Nat.div_one, Nat.mod_one, getD_mapDup]
    generalize hv : dupL (xs.getD p .any) = v
    cases v with
    | agg l =>
      exfalso
      cases hx : xs.getD p .any <;> rw [hx] at hv <;> cases hv
    | _ => exact .inl rfl
  · have hd : p / z < n := Nat.div_lt_of_lt_mul (by rw [Nat.mul_comm]; exact hp)
    have hm := Nat.mod_lt p hz
    have e1 : ((List.range n).map fun i => LV.agg (((xs.drop (i * z)).take z).map dupL)).getD (p / z) .any = .agg (((xs.drop (p / z * z)).take z).map dupL) := by simp [List.getD_eq_getElem?_getD, hd]
    rw [e1]
    left
    show ((((xs.drop (p / z * z)).take z).map dupL).getD (p % z) .any) = _
    rw [getD_mapDup, getD_drop_take _ _ _ _ hm, Nat.div_add_mod' p z]
theorem frzQ_some {t : Nat} {q : Q} {K : Q → Option R} {r : R} (h : frzQ t q K = some r) : ∃ q', K q' = some r ∧ ∀ {fr : Fr} {a : Act} {c : Cx}, Rel fr q a c → ∃ c', c'.w = c.w ∧ Rel fr q' a c' := by
  unfold frzQ at h
  split at h
  rotate_left
  · cases h
  rename_i id p z n hx
  obtain ⟨mk, ty, xs, hmk, hS, h0⟩ := objAt_some h
  clear h
  rcases ifB_some h0 with ⟨hb, h⟩ | ⟨_, h⟩
  rotate_left
  · cases h
  clear h0
  simp only [Bool.and_eq_true] at hb
  obtain ⟨⟨⟨hb1, hb2⟩, hb3⟩, hb4⟩ := hb
  have hp := Nat.eq_of_beq_eq_true hb1
  have hl := Nat.eq_of_beq_eq_true hb2
  have hz : 0 < z := Nat.le_of_ble_eq_true hb3
  have hn := Nat.le_of_ble_eq_true hb4
  subst hp
  refine ⟨_, h, fun {fr a c} hr => ?_⟩
  obtain ⟨ow, hr⟩ := hr
  obtain ⟨hid, cur, os, hO, hs, hh, hI, h1, hrep, _⟩ := hr.obj hmk hS
  have ht : t < q.E.length := by
    rcases Nat.lt_or_ge t q.E.length with h1 | h1
    · exact h1
    · rw [List.getD_eq_getElem?_getD, List.getElem?_eq_none h1] at hx; simp at hx
  have hcell : ∀ j, j < xs.length → c.w.cell? ⟨c.ι id, j, none⟩ = some (cur.getD j undef) := fun j hj => by
    have : j < cur.size := Nat.lt_of_lt_of_le hj hs
    simp [World.cell?, hh, this, Array.getD_eq_getD_getElem?]
  have hg : c.ι id ∈ ow (.sto id) := by rw [hO]; simp
  have hglt := (hr.own _ _ hg).1
  let c' : Cx := { c with I := fun b p => c.I b p ∨ (b = c.ι id ∧ p < xs.length) }
  have hext : Ext c c' (fun b => b = c.ι id) := ⟨Nat.le_refl _, fun _ _ => rfl, fun _ _ h => .inl h, fun _ _ _ => rfl, Nat.le_refl _, fun _ _ _ => rfl, fun b o _ hb h => by
    rcases h with h | h
    · exact h
    · exact absurd h.1 hb, (fun b cur _ k _ h => ⟨cur, k, h, rfl⟩), rfl, rfl, rfl⟩
  let o' : Ow := fun k => match k with
    | .sto id' => if id' = id then [] else ow (.sto id')
    | .env t' => if t' = t then [] else ow (.env t')
    | .arg _ => []
  have sub : ∀ k g, g ∈ o' k → g ∈ ow k := fun k g hg => by
    cases k with
    | sto id' => simp only [o'] at hg; split at hg; simp at hg; exact hg
    | env t' => simp only [o'] at hg; split at hg; simp at hg; exact hg
    | arg i => simp [o'] at hg
  refine ⟨c', rfl, o', by simpa using hr.len, by simpa using hr.alen, fun t' ht' => ?_, fun t' d p hp => by simpa using hr.al t' d p hp, ⟨by simpa using hr.sto.n, fun id' hid' => ?_, fun b p hb => ?_⟩, fun i hi => absurd hi (by simp), rfl, ⟨fun k => ?_, fun k k' g hne h1 h2 => hr.sep.dj k k' g hne (sub k g h1) (sub k' g h2)⟩, ?_, fun k g hg => hr.own k g (sub k g hg), hr.df⟩
  · have ht'' : t' < q.E.length := by simpa using ht'
    by_cases e1 : t' = t
    · subst e1
      have r := hr.env t' ht''
      rw [hx] at r
      show Rep c' ((q.E.set t' (.sl z (chunks z n xs))).getD t' .any) _ _
      rw [getD_set_self _ _ _ ht'']
      simp only [o', if_true]
      generalize a.tmps.getD t' undef = v at r
      generalize ow (.env t') = O at r
      cases r with
      | osl _ _ _ _ cap hid hcap hmax =>
        have hcl := chunks_len z n xs hl
        have := Rep.sl (c := c') z (c.ι id) 0 cap (chunks z n xs) (fun p => cur.getD p undef) (by rw [hcl]; exact hcap) (by rw [hcl]; exact hn) (fun p hp => by rw [Nat.zero_add]; exact hcell p (by rw [hcl] at hp; omega))
          (fun p hp => .inr ⟨rfl, by rw [Nat.zero_add]; rw [hcl] at hp; omega⟩) (fun p hp => h1 p (by rw [hcl] at hp; omega)) (fun p hp => by
            rw [hcl] at hp
            rcases chunks_leaf z n xs hz hl p hp with h | h
            · rw [h]; exact ((hrep p (by omega)).dupL).ext hext (by simp)
            · rw [h]; exact .any _)
        rw [hcl] at this
        exact this
    · show Rep c' ((q.E.set t _).getD t' .any) _ _
      rw [getD_set_other _ _ e1]
      simp only [o', e1, if_false]
      exact (hr.env t' ht'').ext hext (fun b hb e => by subst e; exact hr.sep.dj (.env t') (.sto id) _ (by simp) hb hg)
  · have hid'' : id' < q.S.length := by simpa using hid'
    by_cases e1 : id' = id
    · subst e1
      show Rep c' ((q.S.set id' .any).getD id' .any) _ _
      rw [getD_set_self _ _ _ hid'']
      simp only [o', if_true]
      exact .any _
    · show Rep c' ((q.S.set id .any).getD id' .any) (oval ((q.S.set id .any).getD id' .any) _) _
      rw [getD_set_other _ _ e1]
      simp only [o', e1, if_false]
      exact (hr.sto.r id' hid'').ext hext (fun b hb e => by subst e; exact hr.sep.dj (.sto id') (.sto id) _ (by simpa using e1) hb hg)
  · rcases hb with hb | ⟨rfl, _⟩
    · exact hr.sto.bd b p hb
    · exact hglt
  · cases k with
    | sto id' => simp only [o']; split; exact List.nodup_nil; exact hr.sep.nd _
    | env t' => simp only [o']; split; exact List.nodup_nil; exact hr.sep.nd _
    | arg i => exact List.nodup_nil
  · refine hr.ext.trans hext (fun b hb hm => ?_)
    subst hm
    rcases (hr.own _ _ hg).2 with h2 | h2
    · exact h2
    · omega

def LX.toExit : LX → Exit
  | .nrm => .normal
  | .ext id => .exit id
  | .ret => .ret

/-- What a piece of code owes. -/
def CodeOk (P : Program) (code : Code) (q : Q) (x : LX) (q' : Q) : Prop :=
  ∀ (fr : Fr) (a : Act) (c : Cx), Rel fr q a c → ∀ Qp : Exit → Act → World → Prop, (∀ a' c', Rel fr q' a' c' → Qp x.toExit a' c'.w) → code.wp P Qp a c.w
/-- A slot's value may be taken for another that reads as the same. -/
theorem Rel.recast {fr : Fr} {q : Q} {a : Act} {c : Cx} (h : Rel fr q a c) (t : Nat) (x' : LV) (hx : ∀ {v : Value} {O : List Nat}, Rep c (q.E.getD t .any) v O → Rep c x' v []) : Rel fr { q with E := q.E.set t x' } a c := by
  obtain ⟨o, h⟩ := h
  have hlen : (q.E.set t x').length = q.E.length := by simp
  refine ⟨upd o (.env t) [], by simpa using h.len, by simpa using h.alen, fun t' ht' => ?_, fun t' d p hp => by simpa using h.al t' d p hp, ⟨h.sto.n, fun id hid => ?_, h.sto.bd⟩, fun i hi => absurd hi (by simp), rfl, h.sep.drop _, h.ext, fun k g hg => ?_, h.df⟩
  · have ht'' : t' < q.E.length := by simpa using ht'
    by_cases e : t' = t
    · subst e
      show Rep c ((q.E.set t' x').getD t' .any) _ _
      rw [getD_set_self _ _ _ ht'', upd_same]
      exact hx (h.env t' ht'')
    · show Rep c ((q.E.set t x').getD t' .any) _ _
      rw [getD_set_other _ _ e, upd_other _ _ (by simpa using e)]
      exact h.env t' ht''
  · rw [upd_other _ _ (by simp)]; exact h.sto.r id hid
  · unfold upd at hg
    split at hg
    · simp at hg
    · exact h.own k g hg
theorem frzO_some {t z : Nat} {q : Q} {K : Q → Option R} {r : R} (h : frzO z (q.E.getD t .any) q.S (fun xs S => K ⟨q.E.set t (.sl z xs), q.A, S⟩) = some r) : ∃ q', K q' = some r ∧ ∀ {fr : Fr} {a : Act} {c : Cx}, Rel fr q a c → ∃ c', c'.w = c.w ∧ Rel fr q' a c' := by
  unfold frzO at h
  split at h
  · rename_i id p z' n hx
    refine frzQ_some (t := t) (K := K) ?_
    unfold frzQ
    rw [hx]
    simp only
    obtain ⟨mk, ty, xs, hm, hS, h⟩ := objAt_some h
    unfold objAt
    rw [hS]
    have key : ifB (Nat.beq p 0 && Nat.beq (n * z') xs.length && Nat.blt 0 z' && Nat.ble n 9223372036854775807) (K { q with E := q.E.set t (.sl z' (chunks z' n xs)), S := q.S.set id .any }) none = some r := by
      rcases ifB_some h with ⟨h1, h⟩ | ⟨_, h⟩
      · rw [Bool.and_eq_true] at h1
        have e := Nat.eq_of_beq_eq_true h1.1
        subst e
        rw [h1.2]
        exact h
      · cases h
    rcases hm with rfl | rfl <;> exact key
  · rename_i hx
    exact ⟨_, h, fun {fr a c} hr => ⟨c, rfl, hr.recast t (.sl z []) fun {v O} r => by rw [hx] at r; cases r; exact .sl0 _ none 0 (fun _ => rfl)⟩⟩
  · cases h
end
end Go.Lm

/- Regions whose order is drawn: one order stands for all. -/
namespace Go.Lm
section
variable {R : Type} {P : Program} {T : Nat → Option TI} {C : Nat → Hd R}

/-! ### What an operation's answer hangs on -/
theorem asInt_at {R' : Type} (k : IntKind) (n : Int) (K : Int → Option R') : asInt k (.int k n) K = K n := by simp [asInt, ifB]
theorem asSl_loc {sz : Nat} {v : LV} {K : List LV → Option R} {r : R} (h : asSl sz v K = some r) : ∃ xs, K xs = some r ∧ ∀ {R' : Type} (K' : List LV → Option R'), asSl sz v K' = K' xs := by
  cases v <;> simp only [asSl] at h <;> try (cases h; done)
  · exact ⟨_, h, fun K' => rfl⟩
  all_goals
    rcases ifB_some h with ⟨h1, h2⟩ | ⟨_, h2⟩
    · exact ⟨_, h2, fun K' => by simp only [asSl, h1, ifB]⟩
    · cases h2
theorem mat_loc {n : Nat} {v : LV} {K : List LV → Option R} {r : R} (h : mat n v K = some r) : ∃ xs, K xs = some r ∧ ∀ {R' : Type} (K' : List LV → Option R'), mat n v K' = K' xs := by
  cases v <;> simp only [mat] at h <;> try (cases h; done)
  rcases ifB_some h with ⟨h1, h2⟩ | ⟨_, h2⟩
  · exact ⟨_, h2, fun K' => by simp only [mat, h1, ifB]⟩
  · cases h2
theorem eqLs_loc : ∀ {ls : List LK} {xs ys : List LV} {K : Bool → Option R} {r : R}, eqLs ls xs ys K = some r → ∃ b, K b = some r ∧ ∀ {R' : Type} (K' : Bool → Option R'), eqLs ls xs ys K' = K' b := by
  intro ls
  induction ls with
  | nil =>
    intro xs ys K r h
    cases xs <;> cases ys <;> simp only [eqLs] at h <;> try (cases h; done)
    exact ⟨true, h, fun K' => rfl⟩
  | cons l ls ih =>
    intro xs ys K r h
    cases l <;> cases xs <;> cases ys <;> simp only [eqLs] at h <;> try (cases h; done)
    · obtain ⟨m, rfl, h1⟩ := asInt_some h
      obtain ⟨n, rfl, h2⟩ := asInt_some h1
      obtain ⟨b, h3, hb⟩ := ih h2
      exact ⟨_, h3, fun K' => by simp only [eqLs, asInt_at, hb]⟩
    · obtain ⟨m, rfl, h1⟩ := asBool_some h
      obtain ⟨n, rfl, h2⟩ := asBool_some h1
      obtain ⟨b, h3, hb⟩ := ih h2
      exact ⟨_, h3, fun K' => by simp only [eqLs, asBool, hb]⟩
    · obtain ⟨m, rfl, h1⟩ := asStr_some h
      obtain ⟨n, rfl, h2⟩ := asStr_some h1
      obtain ⟨b, h3, hb⟩ := ih h2
      exact ⟨_, h3, fun K' => by simp only [eqLs, asStr, hb]⟩
theorem boolBin_loc {op : BinOp} {a b : Bool} {K : LV → Option R} {r : R} (h : boolBin op a b K = some r) : ∃ v, K v = some r ∧ ∀ {R' : Type} (K' : LV → Option R'), boolBin op a b K' = K' v := by
  cases op <;> simp only [boolBin] at h <;> try (cases h; done)
  all_goals exact ⟨_, h, fun K' => rfl⟩
theorem isNil_loc {v : LV} {K : Bool → Option R} {r : R} (h : isNil v K = some r) : ∃ b, K b = some r ∧ ∀ {R' : Type} (K' : Bool → Option R'), isNil v K' = K' b := by
  unfold isNil at h
  split at h
  · exact ⟨_, h, fun K' => rfl⟩
  · exact ⟨_, h, fun K' => rfl⟩
  · exact ⟨_, h, fun K' => rfl⟩
  · exact ⟨_, h, fun K' => rfl⟩
  · exact ⟨_, h, fun K' => rfl⟩
  · cases h
theorem isNilP_loc {v : LV} {K : Bool → Option R} {r : R} (h : isNilP v K = some r) : ∃ b, K b = some r ∧ ∀ {R' : Type} (K' : Bool → Option R'), isNilP v K' = K' b := by
  unfold isNilP at h
  split at h
  · exact ⟨_, h, fun K' => rfl⟩
  · exact ⟨_, h, fun K' => rfl⟩
  · exact ⟨_, h, fun K' => rfl⟩
  · cases h
theorem binop_loc {t : TI} {op : BinOp} {x y : LV} {K : LV → Option R} {r : R} (h : binop t op x y K = some r) : ∃ v, K v = some r ∧ ∀ {R' : Type} (K' : LV → Option R'), binop t op x y K' = K' v := by
  unfold binop at h
  split at h
  · rename_i k hk
    split at h
    · rename_i hs
      obtain ⟨m, rfl, h0⟩ := asInt_some h
      obtain ⟨k', n, rfl, h2⟩ := asI_some h0
      rcases ifB_some h2 with ⟨_, h⟩ | ⟨h1, h⟩
      · cases h
      · exact ⟨_, h, fun K' => by simp only [binop, hk, hs, asInt_at, asI, h1, ifB]⟩
    · rename_i hs
      obtain ⟨m, rfl, h0⟩ := asInt_some h
      obtain ⟨n, rfl, h2⟩ := asInt_some h0
      cases op <;> simp only [intBin] at h2 <;> try (cases h2; done)
      all_goals first
        | exact ⟨_, h2, fun K' => by simp only [binop, hk, hs, asInt_at, intBin]⟩
        | (rcases ifB_some h2 with ⟨_, h⟩ | ⟨h1, h⟩
           · cases h
           · exact ⟨_, h, fun K' => by simp only [binop, hk, hs, asInt_at, intBin, h1, ifB]⟩)
  · rename_i hk
    obtain ⟨m, rfl, h0⟩ := asStr_some h
    obtain ⟨n, rfl, h2⟩ := asStr_some h0
    cases op <;> simp only [strBin] at h2 <;> try (cases h2; done)
    all_goals first
      | exact ⟨_, h2, fun K' => by simp only [binop, hk, asStr, strBin]⟩
      | (unfold catStr at h2
         rcases ifB_some h2 with ⟨h1, h⟩ | ⟨_, h⟩
         · exact ⟨_, h, fun K' => by simp only [binop, hk, asStr, strBin, catStr, h1, ifB]⟩
         · cases h)
  · rename_i hk
    obtain ⟨m, rfl, h0⟩ := asBool_some h
    obtain ⟨n, rfl, h2⟩ := asBool_some h0
    obtain ⟨v, h, hv⟩ := boolBin_loc h2
    exact ⟨v, h, fun K' => by simp only [binop, hk, asBool, hv]⟩
  · rename_i hk
    split at h
    · rename_i ls hl
      obtain ⟨xs, h, h1⟩ := mat_loc h
      obtain ⟨ys, h, h2⟩ := mat_loc h
      obtain ⟨b, h, h3⟩ := eqLs_loc h
      obtain ⟨v, h, h4⟩ := boolBin_loc h
      exact ⟨v, h, fun K' => by simp only [binop, hk, hl, h1, h2, h3, h4]⟩
    · cases h
  · rename_i hk
    split at h
    · obtain ⟨b, h, h3⟩ := isNil_loc h
      obtain ⟨v, h, h4⟩ := boolBin_loc h
      exact ⟨v, h, fun K' => by simp only [binop, hk, h3, h4]⟩
    · cases h
  · rename_i hk
    split at h
    · obtain ⟨b, h, h3⟩ := isNilP_loc h
      obtain ⟨v, h, h4⟩ := boolBin_loc h
      exact ⟨v, h, fun K' => by simp only [binop, hk, h3, h4]⟩
    · cases h
  · cases h
theorem dec_loc {l : LK} {v : LV} {K : LV → Option R} {r : R} (h : dec l v K = some r) : ∃ x, K x = some r ∧ ∀ {R' : Type} (K' : LV → Option R'), dec l v K' = K' x := by
  cases l <;> simp only [dec] at h
  · obtain ⟨m, rfl, h1⟩ := asInt_some h; exact ⟨_, h1, fun K' => by simp only [dec, asInt_at]⟩
  · obtain ⟨m, rfl, h1⟩ := asBool_some h; exact ⟨_, h1, fun K' => by simp only [dec, asBool]⟩
  · obtain ⟨m, rfl, h1⟩ := asStr_some h; exact ⟨_, h1, fun K' => by simp only [dec, asStr]⟩
  · obtain ⟨xs, h, hx⟩ := asSl_loc h; exact ⟨_, h, fun K' => by simp only [dec, hx]⟩
  · exact ⟨_, h, fun K' => rfl⟩
  · exact ⟨_, h, fun K' => rfl⟩
  · exact ⟨_, h, fun K' => rfl⟩
  · exact ⟨_, h, fun K' => rfl⟩
theorem decL_loc : ∀ {ls : List LK} {xs : List LV} {i : Nat} {K : List LV → Option R} {r : R}, decL ls xs i K = some r → ∃ x, K x = some r ∧ ∀ {R' : Type} (K' : List LV → Option R'), decL ls xs i K' = K' x := by
  intro ls
  induction ls with
  | nil => intro xs i K r h; exact ⟨_, h, fun K' => rfl⟩
  | cons l ls ih =>
    intro xs i K r h
    simp only [decL] at h
    obtain ⟨x, h, hx⟩ := dec_loc h
    obtain ⟨y, h, hy⟩ := ih h
    exact ⟨_, h, fun K' => by simp only [decL, hx, hy]⟩
theorem decT_loc {t : TI} {v : LV} {K : LV → Option R} {r : R} (h : decT t v K = some r) : ∃ x, K x = some r ∧ ∀ {R' : Type} (K' : LV → Option R'), decT t v K' = K' x := by
  unfold decT at h
  split at h
  · rename_i hk
    obtain ⟨xs, h, hx⟩ := mat_loc h
    obtain ⟨y, h, hy⟩ := decL_loc h
    exact ⟨_, h, fun K' => by simp only [decT, hk, hx, hy]⟩
  · rename_i hk
    obtain ⟨xs, h, hx⟩ := mat_loc h
    obtain ⟨y, h, hy⟩ := decL_loc h
    exact ⟨_, h, fun K' => by simp only [decT, hk, hx, hy]⟩
  · rename_i h1 h2
    split at h
    · rename_i l hl
      obtain ⟨x, h, hx⟩ := dec_loc h
      refine ⟨x, h, fun K' => ?_⟩
      unfold decT
      split
      · exact absurd (by assumption) h1
      · exact absurd (by assumption) h2
      · simp only [hl, hx]
    · cases h

/-- What an operation looks at is the same in both states. -/
structure Agr (ops : Array Oper) (o : Oper) (q q' : Q) : Prop where
  ev : ∀ x, x ∈ o.op.operands.toList → ev q'.E x = ev q.E x
  addr : ∀ x, x ∈ o.op.operands.toList → q'.addr x = q.addr x
  box : ∀ x, x ∈ o.op.operands.toList → ∀ d p, q.addr x = some (d, p) → boxAt q'.E d = boxAt q.E d
  gd : ∀ j w, o.guard = some (j, w) → ∀ d, (ops[j]?).bind (·.dst) = some d → q'.E.getD d .any = q.E.getD d .any
  S : takeB o = false → q'.S = q.S
  al : ∀ t, Operand.tmp t ∈ o.op.operands.toList → q'.A.getD t none = q.A.getD t none
theorem intOr_loc {E E' : List LV} {x : Option Operand} {d : Int} {K : Int → Option R} {r : R} (he : ∀ y, x = some y → ev E' y = ev E y) (h : intOr E x d K = some r) : ∃ n, K n = some r ∧ ∀ {R' : Type} (K' : Int → Option R'), intOr E' x d K' = K' n := by
  cases x with
  | none => exact ⟨d, h, fun K' => rfl⟩
  | some x =>
    simp only [intOr] at h
    obtain ⟨k, n, hn, h1⟩ := asI_some h
    exact ⟨n, h1, fun K' => by simp only [intOr, he x rfl, hn, asI]⟩
theorem still_loc {ops : Array Oper} {o : Oper} {q q' : Q} (hs : stillB o = true) (ha : Agr ops o q q') {K : LV → Option (Nat × Nat) → Q → Option R} {r : R} (h : lop T C o q K = some r) :
    ∃ x al, K x al q = some r ∧ ∀ {R' : Type} (C' : Nat → Hd R') (K' : LV → Option (Nat × Nat) → Q → Option R'), lop T C' o q' K' = K' x al q' := by
  have hev := ha.ev
  have had := ha.addr
  have hbx := ha.box
  unfold lop at h
  split at h <;> rename_i ho <;> simp only [stillB, ho] at hs <;> try (cases hs; done)
  -- move
  · rename_i x
    have e1 := hev x (by rw [ho]; simp [Op.operands])
    have e2 := had x (by rw [ho]; simp [Op.operands])
    split at h
    · rename_i hf
      exact ⟨_, _, h, fun C' K' => by simp only [lop, ho, hf, e1, e2]⟩
    · rename_i hf
      split at h
      · rename_i hf2
        exact ⟨_, _, h, fun C' K' => by simp only [lop, ho, hf, hf2, e1]⟩
      · rename_i hf2
        obtain ⟨xs, h, hx⟩ := asSl_loc h
        exact ⟨_, _, h, fun C' K' => by simp only [lop, ho, hf, hf2, e1, hx]⟩
  -- pick
  · rename_i cc a b
    have e1 := hev cc (by rw [ho]; simp [Op.operands])
    have e2 := hev a (by rw [ho]; simp [Op.operands])
    have e3 := hev b (by rw [ho]; simp [Op.operands])
    obtain ⟨t, ht, h1⟩ := asBool_some h
    rcases ifB_some h1 with ⟨rfl, h2⟩ | ⟨rfl, h2⟩
    · exact ⟨_, _, h2, fun C' K' => by simp only [lop, ho, e1, e2, ht, asBool, ifB]⟩
    · exact ⟨_, _, h2, fun C' K' => by simp only [lop, ho, e1, e3, ht, asBool, ifB]⟩
  -- alloc
  · rename_i e
    split at h
    · rename_i ti ht
      simp only [hs] at h
      exact ⟨_, _, h, fun C' K' => by simp only [lop, ho, ht, hs]⟩
    · cases h
  -- box
  · rename_i e x
    have e1 := hev x (by rw [ho]; simp [Op.operands])
    split at h
    · rename_i ti ht
      simp only [hs] at h
      split at h
      · rename_i hz
        exact ⟨_, _, h, fun C' K' => by simp only [lop, ho, ht, hs, e1, hz]⟩
      · cases h
    · cases h
  -- makeFunc
  · rename_i f first cs
    have e1 : (cs.toList.map fun x => dup (Lm.ev q'.E x)) = cs.toList.map fun x => dup (Lm.ev q.E x) := List.map_congr_left fun x hx => by
      rw [hev x (by rw [ho]; simp only [Op.operands]; simp; exact .inr (by simpa using hx))]
    split at h
    · rename_i hf
      exact ⟨_, _, h, fun C' K' => by simp only [lop, ho, hf, e1]⟩
    · cases h
  -- nilCheck
  · rename_i x
    have e1 := hev x (by rw [ho]; simp [Op.operands])
    have e2 := had x (by rw [ho]; simp [Op.operands])
    split at h
    · rename_i hf
      obtain ⟨id, p, hx, h⟩ := asPtr_some h
      exact ⟨_, _, h, fun C' K' => by simp only [lop, ho, hf, e1, hx]; rfl⟩
    rename_i hf
    split at h
    · rename_i p hp
      exact ⟨_, _, h, fun C' K' => by simp only [lop, ho, hf, e2, hp]⟩
    · rename_i hp
      split at h
      · rename_i id p hx
        exact ⟨_, _, h, fun C' K' => by simp only [lop, ho, hf, e2, hp, e1, hx]⟩
      · rename_i v n p hx
        exact ⟨_, _, h, fun C' K' => by simp only [lop, ho, hf, e2, hp, e1, hx]⟩
      · cases h
  -- build
  · rename_i t ps
    have e1 : (ps.toList.map fun p => dup (Lm.ev q'.E p.2)) = ps.toList.map fun p => dup (Lm.ev q.E p.2) := List.map_congr_left fun p hp => by
      rw [hev p.2 (by rw [ho]; simp only [Op.operands]; exact List.mem_map.2 ⟨p, hp, rfl⟩)]
    split at h
    · rename_i ti ht
      split at h
      · rename_i hk
        split at h
        · rename_i z hz
          exact ⟨_, _, h, fun C' K' => by simp only [lop, ho, ht, hk, e1, hz]⟩
        · cases h
      · cases h
    · cases h
  -- buildSlice
  · rename_i t len ps
    have e1 : (ps.toList.map fun p => dup (Lm.ev q'.E p.2)) = ps.toList.map fun p => dup (Lm.ev q.E p.2) := List.map_congr_left fun p hp => by
      rw [hev p.2 (by rw [ho]; simp only [Op.operands]; exact List.mem_map.2 ⟨p, hp, rfl⟩)]
    have e2 : ∀ (f : LV → Bool), ps.toList.all (fun p => f (dup (Lm.ev q'.E p.2))) = ps.toList.all fun p => f (dup (Lm.ev q.E p.2)) := fun f => by
      have h1 : ∀ (E : List LV), ps.toList.all (fun p => f (dup (Lm.ev E p.2))) = (ps.toList.map fun p => dup (Lm.ev E p.2)).all f := fun E => by rw [List.all_map]; rfl
      rw [h1, h1, e1]
    have e3 := fun n => e2 fun v => Nat.beq (cellsOf v).length n && (cellsOf v).all one
    split at h
    · rename_i ti ht
      split at h
      · rename_i hk
        simp only [hs] at h
        split at h
        · rename_i hz
          exact ⟨_, _, h, fun C' K' => by simp only [lop, ho, ht, hk, hs, e1, e3, hz]⟩
        · cases h
      · cases h
    · cases h
  -- load
  · rename_i t x
    have e1 := hev x (by rw [ho]; simp [Op.operands])
    have e2 := had x (by rw [ho]; simp [Op.operands])
    have e3 := hbx x (by rw [ho]; simp [Op.operands])
    split at h
    · rename_i ti ht
      simp only [hs] at h
      split at h
      · rename_i d p hd
        have e3 := e3 d p hd
        split at h
        · rename_i hz
          exact ⟨_, _, h, fun C' K' => by simp only [lop, ho, ht, hs, e2, hd, e3, hz]⟩
        · cases h
      · rename_i hd
        split at h
        · rename_i v n p hv
          split at h
          · rename_i hk
            split at h
            · rename_i hz
              obtain ⟨x, h, hx⟩ := decT_loc h
              exact ⟨_, _, h, fun C' K' => by simp only [lop, ho, ht, hs, e2, hd, e1, hv, hk, hz, hx]⟩
            · rename_i hz
              unfold ifB at h
              split at h
              · rename_i hl
                obtain ⟨xs, h, hx⟩ := mat_loc h
                obtain ⟨y, h, hy⟩ := decL_loc h
                exact ⟨_, _, h, fun C' K' => by simp only [lop, ho, ht, hs, e2, hd, e1, hv, hk, hz, ifB, hl, hx, hy]⟩
              · cases h
          · rename_i hk
            split at h
            · rename_i hz
              obtain ⟨x, h, hx⟩ := decT_loc h
              exact ⟨_, _, h, fun C' K' => by simp only [lop, ho, ht, hs, e2, hd, e1, hv, hk, hz, hx]⟩
            · cases h
        · cases h
    · cases h
  -- binOp
  · rename_i op t x y yt
    have e1 := hev x (by rw [ho]; simp [Op.operands])
    have e2 := hev y (by rw [ho]; simp [Op.operands])
    split at h
    · rename_i ti ht
      obtain ⟨v, h, hv⟩ := binop_loc h
      exact ⟨_, _, h, fun C' K' => by simp only [lop, ho, ht, e1, e2, hv]⟩
    · cases h
  -- unOp
  · rename_i op t x
    have e1 := hev x (by rw [ho]; simp [Op.operands])
    split at h
    · obtain ⟨b, hb, h⟩ := asBool_some h
      exact ⟨_, _, h, fun C' K' => by simp only [lop, ho, e1, hb, asBool]⟩
    · cases h
  -- convert
  · rename_i s t x
    have e1 := hev x (by rw [ho]; simp [Op.operands])
    split at h
    · rename_i si ti hsi hti
      split at h
      · rename_i h1 h2
        obtain ⟨n, hn, h⟩ := asInt_some h
        exact ⟨_, _, h, fun C' K' => by simp only [lop, ho, hsi, hti, h1, h2, e1, hn, asInt_at]⟩
      · rename_i h1 h2
        obtain ⟨n, hn, h⟩ := asStr_some h
        exact ⟨_, _, h, fun C' K' => by simp only [lop, ho, hsi, hti, h1, h2, e1, hn, asStr]⟩
      · rename_i h1 h2
        split at h
        · rename_i h3
          obtain ⟨xs, h, hx⟩ := asSl_loc h
          unfold strOf at h
          split at h
          · rename_i l hl
            exact ⟨_, _, h, fun C' K' => by simp only [lop, ho, hsi, hti, h1, h2, h3, e1, hx, strOf, hl]⟩
          · cases h
        · cases h
      · rename_i h1 h2
        split at h
        · rename_i h3
          obtain ⟨n, hn, h⟩ := asStr_some h
          rcases ifB_some h with ⟨h4, h⟩ | ⟨_, h⟩
          · exact ⟨_, _, h, fun C' K' => by simp only [lop, ho, hsi, hti, h1, h2, h3, e1, hn, asStr, h4, ifB]⟩
          · cases h
        · cases h
      · cases h
    · cases h
  -- slice
  · rename_i t x lo hi mx
    have e1 := hev x (by rw [ho]; simp [Op.operands])
    have e2 : ∀ y, lo = some y → Lm.ev q'.E y = Lm.ev q.E y := fun y hy => hev y (by rw [ho, hy]; simp [Op.operands])
    have e3 : ∀ y, hi = some y → Lm.ev q'.E y = Lm.ev q.E y := fun y hy => hev y (by rw [ho, hy]; simp [Op.operands])
    split at h
    · rename_i ti ht
      split at h
      · rename_i hk
        obtain ⟨n, hn, h⟩ := asStr_some h
        obtain ⟨l, h, h2⟩ := intOr_loc e2 h
        obtain ⟨u, h, h3⟩ := intOr_loc e3 h
        unfold slStr at h
        rcases ifB_some h with ⟨h4, h⟩ | ⟨_, h⟩
        · exact ⟨_, _, h, fun C' K' => by simp only [lop, ho, ht, hk, e1, hn, asStr, h2, h3, slStr, h4, ifB]⟩
        · cases h
      · rename_i hk
        split at h
        rotate_left
        · rename_i hf
          split at h
          · rename_i hi _ _
            have e4 := e3 _ rfl
            obtain ⟨k, m, hm, h⟩ := asI_some h
            unfold slO at h
            split at h
            · rename_i hx
              rcases ifB_some h with ⟨h1, h⟩ | ⟨_, h⟩
              · exact ⟨_, _, h, fun C' K' => by simp only [lop, ho, ht, hk, hf, e1, e4, hm, asI, hx, slO, h1, ifB]⟩
              · cases h
            · rename_i hx
              rcases ifB_some h with ⟨h1, h⟩ | ⟨_, h⟩
              · exact ⟨_, _, h, fun C' K' => by simp only [lop, ho, ht, hk, hf, e1, e4, hm, asI, hx, slO, h1, ifB]⟩
              · cases h
            · cases h
          · cases h
        rename_i hf
        obtain ⟨xs, h, hx⟩ := asSl_loc h
        obtain ⟨l, h, h2⟩ := intOr_loc e2 h
        obtain ⟨u, h, h3⟩ := intOr_loc e3 h
        unfold slL at h
        rcases ifB_some h with ⟨h4, h⟩ | ⟨_, h⟩
        · exact ⟨_, _, h, fun C' K' => by simp only [lop, ho, ht, hk, hf, e1, hx, h2, h3, slL, h4, ifB]⟩
        · cases h
      · cases h
    · cases h
  -- fieldAddr
  · rename_i t x i
    have e1 := hev x (by rw [ho]; simp [Op.operands])
    have e2 := had x (by rw [ho]; simp [Op.operands])
    split at h
    · rename_i ti ht
      split at h
      · rename_i f1 f2 f3 hf
        split at h
        · rename_i d p hd
          exact ⟨_, _, h, fun C' K' => by simp only [lop, ho, ht, hf, e2, hd]⟩
        · rename_i hd
          split at h
          · rename_i v n p hv
            split at h
            · rename_i hz
              exact ⟨_, _, h, fun C' K' => by simp only [lop, ho, ht, hf, e2, hd, e1, hv, hz]⟩
            · cases h
          · rename_i id p hv
            exact ⟨_, _, h, fun C' K' => by simp only [lop, ho, ht, hf, e2, hd, e1, hv]⟩
          · cases h
      · cases h
    · cases h
  -- field
  · rename_i t x i
    have e1 := hev x (by rw [ho]; simp [Op.operands])
    split at h
    · rename_i ti ht
      split at h
      · rename_i f1 f2 f3 hf
        split at h
        · rename_i fi xs hfi hx
          split at h
          · rename_i hz
            exact ⟨_, _, h, fun C' K' => by simp only [lop, ho, ht, hf, hfi, e1, hx, hz]⟩
          · cases h
        · cases h
      · cases h
    · cases h
  -- indexAddr
  · rename_i t x i
    have e1 := hev x (by rw [ho]; simp [Op.operands])
    have e2 := hev i (by rw [ho]; simp [Op.operands])
    split at h
    · rename_i ti ht
      split at h
      · rename_i hk
        rcases oslOr_some h with ⟨id, p, z, n, hx, h⟩ | ⟨ho2, h⟩
        · rcases ifB_some h with ⟨h5, h⟩ | ⟨_, h⟩
          · obtain ⟨k, m, hm, h⟩ := asI_some h
            unfold idxN at h
            rcases ifB_some h with ⟨h4, h⟩ | ⟨_, h⟩
            · exact ⟨_, _, h, fun C' K' => by simp only [lop, ho, ht, hk, e1, e2, hx, oslOr, h5, hm, asI, idxN, h4, ifB]⟩
            · cases h
          · cases h
        split at h
        rotate_left
        · cases h
        rename_i hf
        obtain ⟨xs, h, hx⟩ := asSl_loc h
        obtain ⟨k, n, hn, h⟩ := asI_some h
        unfold idxL at h
        rcases ifB_some h with ⟨h4, h⟩ | ⟨_, h⟩
        · exact ⟨_, _, h, fun C' K' => by simp only [lop, ho, ht, hk, e1, e2, ho2, hf, hx, hn, asI, idxL, h4, ifB]⟩
        · cases h
      · cases h
    · cases h
  -- index
  · rename_i t x i
    have e1 := hev x (by rw [ho]; simp [Op.operands])
    have e2 := hev i (by rw [ho]; simp [Op.operands])
    split at h
    · rename_i ti ht
      split at h
      · rename_i hk
        obtain ⟨s, hs, h⟩ := asStr_some h
        obtain ⟨k, n, hn, h⟩ := asI_some h
        unfold idxStr at h
        rcases ifB_some h with ⟨h4, h⟩ | ⟨_, h⟩
        · exact ⟨_, _, h, fun C' K' => by simp only [lop, ho, ht, hk, e1, e2, hs, asStr, hn, asI, idxStr, h4, ifB]⟩
        · cases h
      · cases h
    · cases h
  -- extract
  · rename_i x i
    have hs : Nat.beq (flg o) 0 = false := by simpa using hs
    have e1 := hev x (by rw [ho]; simp [Op.operands])
    split at h
    · rename_i t vs hx
      split at h
      · rename_i hb
        simp only [hs] at h
        exact ⟨_, _, h, fun C' K' => by simp only [lop, ho, e1, hx, hb, hs]⟩
      · cases h
    · cases h
  -- len
  · rename_i cl
    split at hs <;> try (cases hs; done)
    rotate_left
    · rename_i hb
      have hfl := hs
      simp only [hb, hs] at h
      unfold callB at h
      split at h
      · rename_i heq _ _; cases heq
      · rename_i heq _ _; cases heq
      · rename_i x y _ hargs
        have e1 := hev x (by rw [ho]; simp only [Op.operands, Call.operands, hb]; simp [hargs])
        have e2 := hev y (by rw [ho]; simp only [Op.operands, Call.operands, hb]; simp [hargs])
        split at h
        · rename_i k a k' b h1 h2
          exact ⟨_, _, h, fun C' K' => by simp only [lop, ho, hb, hfl, callB, hargs, e1, e2, h1, h2]⟩
        · cases h
      · cases h
    rename_i hb
    have hfl := hs
    simp only [hb, hs] at h
    unfold callB at h
    split at h
    · rename_i t x _ hat hargs
      have e1 := hev x (by rw [ho]; simp only [Op.operands, Call.operands, hb]; simp [hargs])
      split at h
      · rename_i ti ht
        split at h
        · rename_i hk
          obtain ⟨s, hs, h⟩ := asStr_some h
          exact ⟨_, _, h, fun C' K' => by simp only [lop, ho, hb, hfl, callB, hat, hargs, ht, hk, e1, hs, asStr]⟩
        · rename_i hk
          rcases oslOr_some h with ⟨id, p, z, n, hx, h⟩ | ⟨ho2, h⟩
          · exact ⟨_, _, h, fun C' K' => by simp only [lop, ho, hb, hfl, callB, hat, hargs, ht, hk, e1, hx, oslOr]⟩
          obtain ⟨xs, h, hx⟩ := asSl_loc h
          exact ⟨_, _, h, fun C' K' => by simp only [lop, ho, hb, hfl, callB, hat, hargs, ht, hk, e1, ho2, hx]⟩
        · cases h
      · cases h
    · rename_i heq _ _; cases heq
    · rename_i heq _; cases heq
    · cases h
  · cases h
end
end Go.Lm
