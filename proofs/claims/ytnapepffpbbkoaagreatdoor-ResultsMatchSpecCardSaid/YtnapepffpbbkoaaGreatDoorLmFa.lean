/- States, masks, regions in their own order. -/
import Derived.Test.YtnapepffpbbkoaaGreatDoorLmEa
namespace Go.Lm
section
variable {R : Type} {P : Program} {T : Nat → Option TI} {C : Nat → Hd R}
/-- What is known of a slot may be put in its place. -/
theorem RelO.know {fr : Fr} {q : Q} {a : Act} {c : Cx} {o : Ow} (h : RelO fr q a c [] [] o) (d : Nat) (b : Bool) (hd : q.E.getD d .any = .bool b) : RelO fr { q with E := q.E.set d (.bool b) } a c [] [] o := by
  have he : q.E.set d (.bool b) = q.E := by
    rcases Nat.lt_or_ge d q.E.length with h1 | h1
    · have : q.E[d] = .bool b := by simpa [List.getD_eq_getElem?_getD, h1] using hd
      rw [← this]; exact List.set_getElem_self h1
    · exact List.set_eq_of_length_le h1
  rw [he]; exact h

theorem Rel.put {fr : Fr} {q : Q} {a : Act} {c : Cx} {x : LV} {v : Value} (h : RelX fr q a c [x] [v]) (d : Option Tmp)
    (al : Option (Nat × Nat)) (hal : ∀ e p, al = some (e, p) → e < q.E.length ∧ ∃ g, a.tmps.getD e undef = .pointer (some ⟨g, 0, none⟩) ∧ v = .pointer (some ⟨g, p, none⟩)) :
    Rel fr (q.put d x al) (a.put d v) c := by
  obtain ⟨o, h⟩ := h
  exact h.put d al hal

theorem rep_und {c : Cx} {v : Value} {O : List Nat} (h : Rep c .und v O) : v = undef := by cases h; rfl
theorem wanted_some {ops : Array Oper} {q : Q} {o : Oper} {K : Bool → Q → Option R} {r : R} (h : wanted ops q o K = some r) :
    ∃ b q', K b q' = some r ∧ ∀ {fr : Fr} {a : Act} {c : Cx}, Rel fr q a c → Rel fr q' a c ∧ Region.wanted o (yielded ops a.tmps) = b := by
  unfold wanted at h
  unfold Region.wanted
  split at h
  · rename_i hg
    rw [hg]
    exact ⟨true, q, h, fun hr => ⟨hr, rfl⟩⟩
  · rename_i j want hg
    rw [hg]
    simp only [setK_eq] at h
    split at h
    · rename_i d hd
      have rep : ∀ {fr : Fr} {a : Act} {c : Cx} {x : LV}, q.E.getD d .any = x → one x = true ∨ x = .und → Rel fr q a c → ∃ O, Rep c x (a.tmps.getD d undef) O := by
        intro fr a c x hx h1 hr
        obtain ⟨ow, hr⟩ := hr
        by_cases hlt : d < q.E.length
        · exact ⟨_, hx ▸ hr.env d hlt⟩
        · have : x = .any := by rw [← hx]; simp [List.getD_eq_getElem?_getD, List.getElem?_eq_none (Nat.le_of_not_lt hlt)]
          subst this; simp [one] at h1
      split at h
      rotate_left
      · rename_i hb
        refine ⟨false, q, h, fun {fr a c} hr => ⟨hr, ?_⟩⟩
        obtain ⟨O, hrep⟩ := rep hb (.inr rfl) hr
        have hz : a.tmps.getD d undef = undef := rep_und hrep
        have hy : yielded ops a.tmps j = none := by
          unfold yielded
          rw [hd]
          rw [Array.getD_eq_getD_getElem?] at hz
          cases hq : a.tmps[d]? with
          | none => simp [hq]
          | some u => rw [hq] at hz; simp at hz; simp [hq, hz, undef]
        simp only [hy]; cases want <;> rfl
      · cases h
      rename_i b hb
      have key : ∀ {fr : Fr} {a : Act} {c : Cx}, Rel fr q a c → yielded ops a.tmps j = some b := by
        intro fr a c hr
        obtain ⟨O, hrep⟩ := rep hb (.inl rfl) hr
        have hv : a.tmps[d]? = some (.bool b) := by
          have hz := rep_bool hrep
          rw [Array.getD_eq_getD_getElem?] at hz
          cases hq : a.tmps[d]? with
          | none => rw [hq] at hz; simp [undef] at hz
          | some u => rw [hq] at hz; simp at hz; rw [hz]
        unfold yielded
        rw [hd]
        simp [hv]
      rcases ifB_some h with ⟨rfl, h⟩ | ⟨rfl, h⟩
      · refine ⟨want, _, h, fun hr => ?_⟩
        have hy := key hr
        obtain ⟨ow, hr⟩ := hr
        refine ⟨⟨ow, hr.know d true hb⟩, ?_⟩
        simp only [hy]; cases want <;> rfl
      · refine ⟨!want, _, h, fun hr => ?_⟩
        have hy := key hr
        obtain ⟨ow, hr⟩ := hr
        refine ⟨⟨ow, hr.know d false hb⟩, ?_⟩
        simp only [hy]; cases want <;> rfl
    · cases h

theorem RelO.flyUnd {fr : Fr} {q : Q} {a : Act} {c : Cx} (h : Rel fr q a c) : RelX fr q a c [.und] [undef] := by
  obtain ⟨o, h⟩ := h
  exact h.fly1 .und

theorem runOps_ok (hT : ∀ t ti, T t = some ti → tiOf P t = some ti) (hC : ∀ f, HSound P f (C f)) {ops : Array Oper} {K : Q → Option R} {r : R} :
    ∀ (os : List Oper) (is : List Nat), os.map some = is.map (ops[·]?) → ∀ (q : Q), runOps T C ops os q K = some r →
      ∃ q', K q' = some r ∧ ∀ {fr : Fr} {a : Act} {c : Cx}, Rel fr q a c → ∀ {Qp : Exit → Act → World → Prop}, (∀ a' c', Rel fr q' a' c' → Qp .normal a' c'.w) → wpOps P ops Qp is a c.w
  | [], [], _, q, h => ⟨q, h, fun hr _ hQ => hQ _ _ hr⟩
  | [], _ :: _, he, _, _ => by simp at he
  | _ :: _, [], he, _, _ => by simp at he
  | o :: os, i :: is, he, q, h => by
    simp only [List.map_cons, List.cons.injEq] at he
    have ih := runOps_ok hT hC (K := K) (r := r) os is he.2
    simp only [runOps, Q.putK_eq] at h
    obtain ⟨b, q1, h, hw⟩ := wanted_some h
    cases b with
    | true =>
      simp only at h
      obtain ⟨x, al, q2, h, hop⟩ := lop_ok hT hC o q1 _ r h
      obtain ⟨q', h, hrest⟩ := ih _ h
      refine ⟨q', h, fun {fr a c} hr {Qp} hQ => ?_⟩
      obtain ⟨hr1, hw⟩ := hw hr
      unfold wpOps
      rw [← he.1]
      simp only [hw, if_true]
      exact .inl (hop fr a c hr1 _ _ fun c' v hx hal => hrest (Rel.put hx o.dst al hal) hQ)
    | false =>
      simp only at h
      obtain ⟨q', h, hrest⟩ := ih _ h
      refine ⟨q', h, fun {fr a c} hr {Qp} hQ => ?_⟩
      obtain ⟨hr1, hw⟩ := hw hr
      unfold wpOps
      rw [← he.1]
      simp only [hw]
      exact hrest (Rel.put (RelO.flyUnd hr1) o.dst none (fun _ _ h => by cases h)) hQ

theorem Rep.coLeaf {c : Cx} {x : LV} {v : Value} {O : List Nat} (s : LS) (r : Rep c x v O) : Rep c (s.co x) v O ∨ Rep c (s.co x) v [] := by
  cases s <;> cases x <;> try exact .inl r
  · cases r; exact .inr (.sl0 _ none 0 (fun _ => rfl))
  · exact .inr r.dup
  · cases r; exact .inr (by assumption)
  · cases r; exact .inl (.own0 _ _)
theorem Rep.coLeaf' {c : Cx} {x : LV} {v : Value} (s : LS) (r : Rep c x v []) : Rep c (s.co x) v [] := (r.coLeaf s).elim id id
theorem coL_len : ∀ (l : List LS) (xs : List LV), (coL l xs).length = xs.length
  | l, [] => by cases l <;> rfl
  | [], x :: xs => rfl
  | s :: l, x :: xs => by simp [coL, coL_len l xs]
theorem coL_get : ∀ (l : List LS) (xs : List LV) (i : Nat), (coL l xs).getD i .any = xs.getD i .any ∨ ∃ s : LS, (coL l xs).getD i .any = s.co (xs.getD i .any)
  | l, [], i => by cases l <;> exact .inl rfl
  | [], x :: xs, i => .inl rfl
  | s :: l, x :: xs, 0 => .inr ⟨s, rfl⟩
  | s :: l, x :: xs, i + 1 => by simpa [coL] using coL_get l xs i
theorem coL_rep {c : Cx} {l : List LS} {xs : List LV} {v : Value} {i : Nat} (r : Rep c (xs.getD i .any) v []) : Rep c ((coL l xs).getD i .any) v [] := by
  rcases coL_get l xs i with h | ⟨s, h⟩
  · rw [h]; exact r
  · rw [h]; exact r.coLeaf' s
theorem Rep.co {c : Cx} {x : LV} {v : Value} {O : List Nat} (s : SH) (r : Rep c x v O) : Rep c (s.co x) v O ∨ Rep c (s.co x) v [] := by
  cases s with
  | lf s => exact r.coLeaf s
  | agg l =>
    cases r <;> first | (left; constructor <;> assumption) | skip
    rename_i xs cs hs hr
    exact .inl (.agg _ cs (by rw [hs, coL_len]) (fun i hi => coL_rep (hr i (by rwa [coL_len] at hi))))
  | lbox l =>
    cases r <;> first | (left; constructor <;> assumption) | skip
    rename_i xs g cur e hs hh hI h1 hr
    exact .inl (.lbox _ g cur e (by rw [hs, coL_len]) hh hI h1 (fun i hi => coL_rep (hr i (by rwa [coL_len] at hi))))
  | fn f l => exact .inl r
theorem co_len : ∀ (m : Mk) (E : List LV), (m.co E).length = E.length
  | m, [] => by rcases m with _ | ⟨_ | s, m⟩ <;> rfl
  | [], _ :: E => by simp [Mk.co, co_len [] E]
  | none :: m, _ :: E => by simp [Mk.co, co_len m E]
  | some s :: m, _ :: E => by simp [Mk.co, co_len m E]
theorem co_get : ∀ (m : Mk) (E : List LV) (t : Nat), (m.co E).getD t .any = .any ∨ ∃ s : SH, (m.co E).getD t .any = s.co (E.getD t .any)
  | m, [], t => .inl (by rcases m with _ | ⟨_ | s, m⟩ <;> rfl)
  | [], _ :: E, 0 => .inl rfl
  | [], _ :: E, t + 1 => by simpa [Mk.co] using co_get [] E t
  | none :: m, _ :: E, 0 => .inl rfl
  | none :: m, _ :: E, t + 1 => by simpa [Mk.co] using co_get m E t
  | some s :: m, _ :: E, 0 => .inr ⟨s, rfl⟩
  | some s :: m, _ :: E, t + 1 => by simpa [Mk.co] using co_get m E t
theorem co_rep {c : Cx} {m : Mk} {E : List LV} {t : Nat} {v : Value} {O : List Nat} (r : Rep c (E.getD t .any) v O) : Rep c ((m.co E).getD t .any) v O ∨ Rep c ((m.co E).getD t .any) v [] := by
  rcases co_get m E t with h | ⟨s, h⟩
  · rw [h]; exact .inr (.any _)
  · rw [h]; exact r.co s

open Classical in
theorem Rel.mask {fr : Fr} {q : Q} {a : Act} {c : Cx} (h : Rel fr q a c) (m : Mk) : Rel fr (q.mask m) a c := by
  obtain ⟨o, h⟩ := h
  have hlen : (q.mask m).E.length = q.E.length := by simp [Q.mask, co_len]
  let o' : Ow := fun k => match k with
    | .env t => if Rep c ((q.mask m).E.getD t .any) (a.tmps.getD t undef) (o (.env t)) then o (.env t) else []
    | k => o k
  have sub : ∀ k g, g ∈ o' k → g ∈ o k := fun k g hg => by
    cases k with
    | env t => simp only [o'] at hg; split at hg; exact hg; simp at hg
    | sto id => exact hg
    | arg i => exact hg
  refine ⟨o', ?_, ?_, fun t ht => ?_, fun t d p hp => ?_, ⟨h.sto.n, h.sto.r, h.sto.bd⟩, fun i hi => absurd hi (by simp), rfl, ⟨fun k => ?_, fun k k' g hne hg hg' => h.sep.dj k k' g hne (sub k g hg) (sub k' g hg')⟩, h.ext, fun k g hg => h.own k g (sub k g hg), h.df⟩
  · rw [hlen]; exact h.len
  · rw [hlen]; simp [Q.mask]
  · rw [hlen] at ht
    simp only [o']
    split
    · assumption
    · rename_i hn
      rcases co_rep (m := m) (h.env t ht) with h1 | h1
      · exact absurd h1 hn
      · exact h1
  · simp only [Q.mask, List.getD_eq_getElem?_getD, List.getElem?_replicate] at hp
    split at hp <;> simp at hp
  · cases k with
    | env t => simp only [o']; split <;> simp [h.sep.nd]
    | sto id => exact h.sep.nd _
    | arg i => exact h.sep.nd _

theorem getD_drop_take (xs : List LV) (o n i : Nat) (hi : i < n) : ((xs.drop o).take n).getD i .any = xs.getD (o + i) .any := getD_part xs o n i hi
theorem chunks_len (z n : Nat) (xs : List LV) (h : n * z = xs.length) : (chunks z n xs).length = n := by
  unfold chunks
  split
  · rename_i e; have := Nat.eq_of_beq_eq_true e; subst this; simp; omega
  · simp
theorem chunks_leaf (z n : Nat) (xs : List LV) (hz : 0 < z) (h : n * z = xs.length) (p : Nat) (hp : p < n * z) : leaf ((chunks z n xs).getD (p / z) .any) (p % z) = dupL (xs.getD p .any) ∨ leaf ((chunks z n xs).getD (p / z) .any) (p % z) = .any := by
  unfold chunks
  split
  · rename_i e
    have := Nat.eq_of_beq_eq_true e; subst this
    rw [Nat.div_one, Nat.mod_one, getD_mapDup]
    generalize hv : dupL (xs.getD p .any) = v
    cases v with
    | agg l =>
      exfalso
      cases hx : xs.getD p .any <;> rw [hx] at hv <;> cases hv
    | _ => exact .inl rfl
  · have hd : p / z < n := Nat.div_lt_of_lt_mul (by rw [Nat.mul_comm]; exact hp)
    have hm := Nat.mod_lt p hz
    have e1 : ((List.range n).map fun i => LV.agg (((xs.drop (i * z)).take z).map dupL)).getD (p / z) .any = .agg (((xs.drop (p / z * z)).take z).map dupL) := by simp [List.getD_eq_getElem?_getD, hd]
    rw [e1]
    left
    show ((((xs.drop (p / z * z)).take z).map dupL).getD (p % z) .any) = _
    rw [getD_mapDup, getD_drop_take _ _ _ _ hm, Nat.div_add_mod' p z]
theorem frzQ_some {t : Nat} {q : Q} {K : Q → Option R} {r : R} (h : frzQ t q K = some r) : ∃ q', K q' = some r ∧ ∀ {fr : Fr} {a : Act} {c : Cx}, Rel fr q a c → ∃ c', c'.w = c.w ∧ Rel fr q' a c' := by
  unfold frzQ at h
  split at h
  rotate_left
  · cases h
  rename_i id p z n hx
  obtain ⟨ty, xs, hS, h0⟩ := objAt_some h
  clear h
  rcases ifB_some h0 with ⟨hb, h⟩ | ⟨_, h⟩
  rotate_left
  · cases h
  clear h0
  simp only [Bool.and_eq_true] at hb
  obtain ⟨⟨⟨hb1, hb2⟩, hb3⟩, hb4⟩ := hb
  have hp := Nat.eq_of_beq_eq_true hb1
  have hl := Nat.eq_of_beq_eq_true hb2
  have hz : 0 < z := Nat.le_of_ble_eq_true hb3
  have hn := Nat.le_of_ble_eq_true hb4
  subst hp
  refine ⟨_, h, fun {fr a c} hr => ?_⟩
  obtain ⟨ow, hr⟩ := hr
  obtain ⟨hid, cur, os, hO, hs, hh, hI, h1, hrep⟩ := hr.obj hS
  have ht : t < q.E.length := by
    rcases Nat.lt_or_ge t q.E.length with h1 | h1
    · exact h1
    · rw [List.getD_eq_getElem?_getD, List.getElem?_eq_none h1] at hx; simp at hx
  have hcell : ∀ j, j < xs.length → c.w.cell? ⟨c.ι id, j, none⟩ = some (cur.getD j undef) := fun j hj => by
    have : j < cur.size := by rw [hs]; exact hj
    simp [World.cell?, hh, this, Array.getD_eq_getD_getElem?]
  have hg : c.ι id ∈ ow (.sto id) := by rw [hO]; simp
  have hglt := (hr.own _ _ hg).1
  let c' : Cx := { c with I := fun b p => c.I b p ∨ (b = c.ι id ∧ p < xs.length) }
  have hext : Ext c c' (fun b => b = c.ι id) := ⟨Nat.le_refl _, fun _ _ => rfl, fun _ _ h => .inl h, fun _ _ _ => rfl, Nat.le_refl _, fun _ _ _ => rfl, fun b o _ hb h => by
    rcases h with h | h
    · exact h
    · exact absurd h.1 hb, rfl, rfl, rfl⟩
  let o' : Ow := fun k => match k with
    | .sto id' => if id' = id then [] else ow (.sto id')
    | .env t' => if t' = t then [] else ow (.env t')
    | .arg _ => []
  have sub : ∀ k g, g ∈ o' k → g ∈ ow k := fun k g hg => by
    cases k with
    | sto id' => simp only [o'] at hg; split at hg; simp at hg; exact hg
    | env t' => simp only [o'] at hg; split at hg; simp at hg; exact hg
    | arg i => simp [o'] at hg
  refine ⟨c', rfl, o', by simpa using hr.len, by simpa using hr.alen, fun t' ht' => ?_, fun t' d p hp => by simpa using hr.al t' d p hp, ⟨by simpa using hr.sto.n, fun id' hid' => ?_, fun b p hb => ?_⟩, fun i hi => absurd hi (by simp), rfl, ⟨fun k => ?_, fun k k' g hne h1 h2 => hr.sep.dj k k' g hne (sub k g h1) (sub k' g h2)⟩, ?_, fun k g hg => hr.own k g (sub k g hg), hr.df⟩
  · have ht'' : t' < q.E.length := by simpa using ht'
    by_cases e1 : t' = t
    · subst e1
      have r := hr.env t' ht''
      rw [hx] at r
      show Rep c' ((q.E.set t' (.sl z (chunks z n xs))).getD t' .any) _ _
      rw [getD_set_self _ _ _ ht'']
      simp only [o', if_true]
      generalize a.tmps.getD t' undef = v at r
      generalize ow (.env t') = O at r
      cases r with
      | osl _ _ _ _ cap hid hcap hmax =>
        have hcl := chunks_len z n xs hl
        have := Rep.sl (c := c') z (c.ι id) 0 cap (chunks z n xs) (fun p => cur.getD p undef) (by rw [hcl]; exact hcap) (by rw [hcl]; exact hn) (fun p hp => by rw [Nat.zero_add]; exact hcell p (by rw [hcl] at hp; omega))
          (fun p hp => .inr ⟨rfl, by rw [Nat.zero_add]; rw [hcl] at hp; omega⟩) (fun p hp => h1 p (by rw [hcl] at hp; omega)) (fun p hp => by
            rw [hcl] at hp
            rcases chunks_leaf z n xs hz hl p hp with h | h
            · rw [h]; exact ((hrep p (by omega)).dupL).ext hext (by simp)
            · rw [h]; exact .any _)
        rw [hcl] at this
        exact this
    · show Rep c' ((q.E.set t _).getD t' .any) _ _
      rw [getD_set_other _ _ e1]
      simp only [o', e1, if_false]
      exact (hr.env t' ht'').ext hext (fun b hb e => by subst e; exact hr.sep.dj (.env t') (.sto id) _ (by simp) hb hg)
  · have hid'' : id' < q.S.length := by simpa using hid'
    by_cases e1 : id' = id
    · subst e1
      show Rep c' ((q.S.set id' .any).getD id' .any) _ _
      rw [getD_set_self _ _ _ hid'']
      simp only [o', if_true]
      exact .any _
    · show Rep c' ((q.S.set id .any).getD id' .any) (oval ((q.S.set id .any).getD id' .any) _) _
      rw [getD_set_other _ _ e1]
      simp only [o', e1, if_false]
      exact (hr.sto.r id' hid'').ext hext (fun b hb e => by subst e; exact hr.sep.dj (.sto id') (.sto id) _ (by simpa using e1) hb hg)
  · rcases hb with hb | ⟨rfl, _⟩
    · exact hr.sto.bd b p hb
    · exact hglt
  · cases k with
    | sto id' => simp only [o']; split; exact List.nodup_nil; exact hr.sep.nd _
    | env t' => simp only [o']; split; exact List.nodup_nil; exact hr.sep.nd _
    | arg i => exact List.nodup_nil
  · refine hr.ext.trans hext (fun b hb hm => ?_)
    subst hm
    rcases (hr.own _ _ hg).2 with h2 | h2
    · exact h2
    · omega

def LX.toExit : LX → Exit
  | .nrm => .normal
  | .ext id => .exit id
  | .ret => .ret

/-- What a piece of code owes. -/
def CodeOk (P : Program) (code : Code) (q : Q) (x : LX) (q' : Q) : Prop :=
  ∀ (fr : Fr) (a : Act) (c : Cx), Rel fr q a c → ∀ Qp : Exit → Act → World → Prop, (∀ a' c', Rel fr q' a' c' → Qp x.toExit a' c'.w) → code.wp P Qp a c.w
end
end Go.Lm
