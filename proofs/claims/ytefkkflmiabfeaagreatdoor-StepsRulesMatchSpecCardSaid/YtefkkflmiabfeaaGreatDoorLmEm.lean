/- Maps: keys and entries. -/
import Derived.Test.YtefkkflmiabfeaaGreatDoorLmE8
set_option linter.unusedVariables false
set_option linter.unusedSimpArgs false
namespace Go.Lm
open Go.MapKept
section
variable {P : Program}
theorem keyOk_isKey {kd : KD} {x : LV} {v : Value} {d : TypeDesc} (hk : keyOk kd x = true) (hv : rigid x = some v) (hd : kd = kdOf d) : IsKey d v := by
  subst hd
  cases d <;> cases x <;> simp only [kdOf, keyOk] at hk <;> try (cases hk; done)
  all_goals
    simp only [rigid, Option.some.injEq] at hv
    subst hv
    first | exact trivial | exact ikN_inj hk
theorem keyEq_iff {kd : KD} {x y : LV} {v u : Value} (hx : keyOk kd x = true) (hy : keyOk kd y = true) (hv : rigid x = some v) (hu : rigid y = some u) : keyEq x y = true ↔ v = u := by
  cases kd <;> cases x <;> simp only [keyOk] at hx <;> try (cases hx; done)
  all_goals cases y <;> simp only [keyOk] at hy <;> try (cases hy; done)
  all_goals
    simp only [rigid, Option.some.injEq] at hv hu
    subst hv hu
  · have e1 := ikN_inj hx
    have e2 := ikN_inj hy
    subst e1 e2
    simp [keyEq]
  · simp [keyEq]
  · simp [keyEq]
theorem mapGet_find {kd : KD} {x : LV} {v : Value} {d : TypeDesc} (hx : keyOk kd x = true) (hv : rigid x = some v) (hd : kd = kdOf d) : ∀ (kvs : List (LV × LV)) (es : List MapEntry) (i0 : Nat), es.length = kvs.length →
    (∀ i, i < kvs.length → rigid (kvs.getD i (.any, .any)).1 = some (es.getD i ⟨undef, undef, 0⟩).key ∧ keyOk kd (kvs.getD i (.any, .any)).1 = true) →
    (mapGet kvs x = none ∧ Instr.findNow d v es i0 = some none ∧ (∀ e, e ∈ es → e.key ≠ v) ∧ ∀ y, mapPut kvs x y = kvs ++ [(x, y)]) ∨
      ∃ j, j < kvs.length ∧ Instr.findNow d v es i0 = some (some (i0 + j, (es.getD j ⟨undef, undef, 0⟩).val)) ∧ mapGet kvs x = some (kvs.getD j (.any, .any)).2 ∧ (es.getD j ⟨undef, undef, 0⟩).key = v ∧
        ∀ y, mapPut kvs x y = kvs.set j ((kvs.getD j (.any, .any)).1, y)
  | [], [], i0, _, _ => .inl ⟨rfl, rfl, by simp, fun _ => rfl⟩
  | [], _ :: _, _, h, _ => by simp at h
  | _ :: _, [], _, h, _ => by simp at h
  | (k, w) :: kvs, e :: es, i0, hl, hk => by
    obtain ⟨h1, h2⟩ := hk 0 (by simp)
    simp only [List.getD_cons_zero] at h1 h2
    have ih := mapGet_find hx hv hd kvs es (i0 + 1) (by simpa using hl) (fun i hi => by have := hk (i + 1) (by simpa using hi); simpa using this)
    obtain ⟨r, hr, hiff⟩ := sameNow_of_keys (keyOk_isKey hx hv hd) (keyOk_isKey h2 h1 hd)
    have hke := keyEq_iff h2 hx h1 hv
    cases r with
    | true =>
      have he : v = e.key := hiff.1 rfl
      have : keyEq k x = true := hke.2 he.symm
      exact .inr ⟨0, by simp, by simp [Instr.findNow, hr], by simp [mapGet, this], by simpa using he.symm, fun y => by simp [mapPut, this]⟩
    | false =>
      have hne : ¬ v = e.key := fun h => by have := hiff.2 h; cases this
      have : keyEq k x = false := by
        cases hq : keyEq k x
        · rfl
        · exact absurd (hke.1 hq).symm hne
      rcases ih with ⟨g1, g2, g3, g4⟩ | ⟨j, hj, g1, g2, g3, g4⟩
      · refine .inl ⟨by simp [mapGet, this, g1], by simp [Instr.findNow, hr, g2], fun e' he' => ?_, fun y => by simp [mapPut, this, g4]⟩
        rcases List.mem_cons.1 he' with rfl | h
        · exact fun h => hne h.symm
        · exact g3 e' h
      · exact .inr ⟨j + 1, by simpa using hj, by simp [Instr.findNow, hr, g1]; omega, by simpa [mapGet, this] using g2, by simpa using g3, fun y => by simp [mapPut, this, g4]⟩
theorem tiOf_zv {t : TypeId} {ti : TI} (h : tiOf P t = some ti) : ∃ i z, P.info? t = some i ∧ i.zero = some z ∧ ti.zv = ev [] (.const z) := by
  unfold tiOf at h
  split at h
  · rename_i i d hi hd
    split at h
    · rename_i z hz hl
      have hz' : ∃ z', i.zero = some z' := by
        unfold zeroOk at hz
        split at hz
        · rename_i z' hz'; exact ⟨z', hz'⟩
        · cases hz
      obtain ⟨z', hz'⟩ := hz'
      have hv : zvOf i = ev [] (.const z') := by unfold zvOf; rw [hz']
      refine ⟨i, z', hi, hz', ?_⟩
      split at h
      · split at h
        · cases h; exact hv
        · cases h
      · split at h
        · cases h; exact hv
        · cases h
      · cases h; exact hv
      · cases h; exact hv
      · cases h; exact hv
    · cases h
  · cases h
theorem tiOf_map {t : TypeId} {ti : TI} (h : tiOf P t = some ti) (hk : ti.kd = .map) : P.underlying t = some (.map ti.key ti.el) := by
  unfold tiOf at h
  split at h
  · rename_i i d hi hd
    split at h
    · split at h
      · split at h
        · cases h; cases hk
        · cases h
      · split at h
        · cases h; cases hk
        · cases h
      · cases h; cases hk
      · cases h; exact hd
      · rename_i h1 h2 h3 h4
        cases h
        exfalso
        cases d <;> simp [kdOf] at hk <;> simp_all
    · cases h
  · cases h
theorem rep_zv (c : Cx) (z : Value) : Rep c (ev [] (.const z)) z [] := by
  rw [ev_const]; exact rep_const c z
/-- A map of the store. -/
theorem mp_rep {fr : Fr} {q : Q} {a : Act} {c : Cx} (hr : Rel fr q a c) {m : Operand} {id : Nat} {kd : KD} {kvs : List (LV × LV)} (hm : ev q.E m = .map id) (hS : q.S.getD id .any = .mp kd kvs) :
    ∃ g es clock, a.eval m = .map (some g) ∧ g = c.ι id ∧ c.w.heap[g]? = some (.map es clock) ∧ MapKept.Stamped es clock ∧ es.size = kvs.length ∧
      (∀ i, i < kvs.length → rigid (kvs.getD i (.any, .any)).1 = some (es.getD i ⟨undef, undef, 0⟩).key ∧ keyOk kd (kvs.getD i (.any, .any)).1 = true) ∧ (∀ p, ¬ c.I g p) ∧
      ∀ i, i < kvs.length → Rep c (kvs.getD i (.any, .any)).2 (es.getD i ⟨undef, undef, 0⟩).val [] := by
  obtain ⟨ow, hr⟩ := hr
  obtain ⟨O, r⟩ := hr.evo m
  rw [hm] at r
  generalize hv : a.eval m = v at r
  cases r with
  | map _ hid =>
    have hlt : id < q.S.length := by
      rcases Nat.lt_or_ge id q.S.length with h | h
      · exact h
      · rw [List.getD_eq_getElem?_getD, List.getElem?_eq_none h] at hS; cases hS
    have h := hr.sto.r id hlt
    rw [hS] at h
    simp only [oval] at h
    generalize hg : c.ι id = g at h
    generalize hO : ow (.sto id) = O' at h
    cases h with
    | mp _ _ g es clock hh hst hs hk hI hr => exact ⟨g, es, clock, rfl, rfl, hh, hst, hs, hk, hI, hr⟩
theorem rep_pair {c : Cx} {x : LV} {v : Value} (h : Rep c x v []) (b : Bool) : Rep c (.tup [x, .bool b]) (.tuple #[v, .bool b]) [] := by
  have := Rep.tup (c := c) [x, .bool b] #[v, .bool b] (fun _ => []) rfl (fun i hi => by
    match i, hi with
    | 0, _ => simpa using h
    | 1, _ => simpa using Rep.bool b)
  rwa [flatO_nil] at this
theorem ok_lookup {o : Oper} {q : Q} {t : TypeId} {ti ki ei : TI} {m k : Operand} {ok : Bool} {id : Nat} {kd : KD} {kvs : List (LV × LV)} {kv : Value} (ho : o.op = .lookup t m k ok) (ht : tiOf P t = some ti) (hk : ti.kd = .map)
    (hki : tiOf P ti.key = some ki) (hei : tiOf P ti.el = some ei) (hm : ev q.E m = .map id) (hS : q.S.getD id .any = .mp kd kvs) (hkd : kd = ki.kd) (hx : keyOk kd (ev q.E k) = true) (hxv : rigid (ev q.E k) = some kv) :
    ∀ (y : LV), (∀ {c : Cx} {w : Value}, Rep c ((mapGet kvs (ev q.E k)).getD ei.zv) w [] → Rep c y w []) → OpOk P q o (lookR ok y (mapGet kvs (ev q.E k)).isSome) none q := by
  intro y hy
  have hmt := tiOf_map ht hk
  obtain ⟨_, d, _, hd, hkd', _⟩ := tiOf_und hki
  obtain ⟨i, z, hi, hz, hzv⟩ := tiOf_zv hei
  refine op_pure fun fr a c hr => ?_
  obtain ⟨g, es, clock, e1, _, hh, _, hs, hkk, _, hrep⟩ := mp_rep hr hm hS
  obtain ⟨O, hrk⟩ := hr.evr k
  have hkv : a.eval k = kv := by
    generalize hz : ev q.E k = x at *
    cases x <;> simp only [rigid] at hxv <;> try (cases hxv; done)
    · cases hxv; exact rep_int hrk
    · cases hxv; exact rep_bool hrk
    · cases hxv; exact rep_str hrk
  have hgd : ∀ j, (es.toList.getD j ⟨undef, undef, 0⟩) = es.getD j ⟨undef, undef, 0⟩ := fun j => by simp [List.getD_eq_getElem?_getD, Array.getD_eq_getD_getElem?]
  have hfind := mapGet_find hx hxv (hkd.trans hkd') kvs es.toList 0 (by simpa using hs) (fun i hi => by rw [hgd]; exact hkk i hi)
  have hck := MapKept.run_checkKey (P := P) (w := c.w) hd (keyOk_isKey hx hxv (hkd.trans hkd')) es.isEmpty 9999
  have hzr : (zeroValue ti.el).run P c.w = .ok z c.w := by simp [zeroValue, typeInfo, hi, hz]
  rcases hfind with ⟨g1, g2, _⟩ | ⟨j, hj, g1, g2, _⟩
  · have hf := MapKept.run_findKey (P := P) (w := c.w) hd g2
    cases ok with
    | false =>
      refine ⟨z, ?_, by simp only [lookR]; exact hy (by rw [g1, Option.getD_none, hzv]; exact rep_zv c z)⟩
      simp [execOp, ho, Instr.lookup, e1, hkv, run_underlying hmt, MapKept.run_getObj_map hh, hck, hf, hzr]
    | true =>
      refine ⟨.tuple #[z, .bool false], ?_, ?_⟩
      · simp [execOp, ho, Instr.lookup, e1, hkv, run_underlying hmt, MapKept.run_getObj_map hh, hck, hf, hzr]
      · simp only [lookR]; rw [show (mapGet kvs (ev q.E k)).isSome = false by rw [g1]; rfl]; exact rep_pair (hy (by rw [g1, Option.getD_none, hzv]; exact rep_zv c z)) false
  · rw [hgd, Nat.zero_add] at g1
    have hf := MapKept.run_findKey (P := P) (w := c.w) hd g1
    cases ok with
    | false =>
      refine ⟨(es.getD j ⟨undef, undef, 0⟩).val, ?_, by simp only [lookR]; exact hy (by rw [g2, Option.getD_some]; exact hrep j hj)⟩
      simp [execOp, ho, Instr.lookup, e1, hkv, run_underlying hmt, MapKept.run_getObj_map hh, hck, hf]
    | true =>
      refine ⟨.tuple #[(es.getD j ⟨undef, undef, 0⟩).val, .bool true], ?_, ?_⟩
      · simp [execOp, ho, Instr.lookup, e1, hkv, run_underlying hmt, MapKept.run_getObj_map hh, hck, hf]
      · simp only [lookR]; rw [show (mapGet kvs (ev q.E k)).isSome = true by rw [g2]; rfl]; exact rep_pair (hy (by rw [g2, Option.getD_some]; exact hrep j hj)) true
/-- A map of the store gets other entries. -/
theorem Rel.setMap {fr : Fr} {q : Q} {a : Act} {c : Cx} (hr : Rel fr q a c) {id g : Nat} {kd : KD} {kvs kvs' : List (LV × LV)} {es es' : Array MapEntry} {clock clock' : Nat} (hid : id < q.S.length) (hg : c.ι id = g) (hS : q.S.getD id .any = .mp kd kvs) (hh : c.w.heap[g]? = some (.map es clock)) (hI : ∀ p, ¬ c.I g p)
    (hst : MapKept.Stamped es' clock') (hs : es'.size = kvs'.length)
    (hk : ∀ i, i < kvs'.length → rigid (kvs'.getD i (.any, .any)).1 = some (es'.getD i ⟨undef, undef, 0⟩).key ∧ keyOk kd (kvs'.getD i (.any, .any)).1 = true)
    (hv : ∀ i, i < kvs'.length → Rep c (kvs'.getD i (.any, .any)).2 (es'.getD i ⟨undef, undef, 0⟩).val []) :
    Rel fr { q with S := q.S.set id (.mp kd kvs') } a { c with w := { c.w with heap := c.w.heap.setIfInBounds g (.map es' clock') } } := by
  obtain ⟨ow, hr⟩ := hr
  have hO : ow (.sto id) = [g] := by
    have h := hr.sto.r id hid
    rw [hS] at h
    simp only [oval, hg] at h
    generalize ow (.sto id) = O at h
    cases h; rfl
  obtain ⟨hb1, hb2⟩ := MapKept.heap_set (w := c.w) (r := g) (o' := .map es' clock') hh
  have hsize : (c.w.heap.setIfInBounds g (.map es' clock')).size = c.w.heap.size := by simp
  have hext : Ext c { c with w := { c.w with heap := c.w.heap.setIfInBounds g (.map es' clock') } } (fun b => b = g) :=
    ⟨Nat.le_refl _, fun _ _ => rfl, fun _ _ h => h, fun b o hb => World.cell?_of_block (w := c.w) (hb2 b (fun e => by subst e; exact hI o hb)), by show _ ≤ (c.w.heap.setIfInBounds g _).size; omega, fun b _ hb => hb2 b hb, fun _ _ _ _ h => h, (fun b _ _ _ hb h => by subst hb; rw [hh] at h; cases h), rfl, rfl, rfl⟩
  refine ⟨ow, hr.len, hr.alen, fun t ht => (hr.env t ht).ext hext (fun b hb e => ?_), hr.al, ⟨by simpa using hr.sto.n, fun id' hid' => ?_, fun b p hb => by show b < (c.w.heap.setIfInBounds g _).size; rw [hsize]; exact hr.sto.bd b p hb⟩, fun i hi => absurd hi (by simp), rfl, hr.sep, ?_,
    fun k b hb => ⟨by show b < (c.w.heap.setIfInBounds g _).size; rw [hsize]; exact (hr.own k b hb).1, (hr.own k b hb).2⟩, hr.df⟩
  · subst e
    exact hr.sep.dj (.env t) (.sto id) b (by simp) hb (by rw [hO]; simp)
  · have hid'' : id' < q.S.length := by simpa using hid'
    by_cases e : id' = id
    · subst e
      have : (q.S.set id' (.mp kd kvs')).getD id' .any = .mp kd kvs' := by simp [List.getD_eq_getElem?_getD, hid]
      show Rep _ ((q.S.set id' _).getD id' .any) _ _
      rw [this, hO]
      simp only [oval, hg]
      exact .mp kd kvs' g es' clock' hb1 hst hs hk hI (fun i hi => (hv i hi).ext hext (by simp))
    · have : (q.S.set id (.mp kd kvs')).getD id' .any = q.S.getD id' .any := by simp [List.getD_eq_getElem?_getD, List.getElem?_set_ne (Ne.symm e)]
      show Rep _ ((q.S.set id _).getD id' .any) (oval ((q.S.set id _).getD id' .any) _) _
      rw [this]
      exact (hr.sto.r id' hid'').ext hext (fun b hb e' => by
        subst e'
        exact hr.sep.dj (.sto id') (.sto id) b (by simpa using e) hb (by rw [hO]; simp))
  · refine hr.ext.trans hext (fun b hb hm => ?_)
    subst hm
    rcases (hr.own (.sto id) b (by rw [hO]; simp)).2 with h2 | h2
    · exact h2
    · omega
theorem sameBits_rigid {kd : KD} {x : LV} {v : Value} (hk : keyOk kd x = true) (hv : rigid x = some v) (n : Nat) : Instr.sameBits (n + 1) v v = true := by
  cases x <;> simp only [rigid] at hv <;> try (cases hv; done)
  all_goals
    cases hv
    simp [Instr.sameBits, MapKept.bytes_beq]
theorem ok_mapUpdate {o : Oper} {q : Q} {t : TypeId} {ti ki : TI} {m k y : Operand} {id : Nat} {kd : KD} {kvs : List (LV × LV)} {kv : Value} (ho : o.op = .mapUpdate t m k y) (ht : tiOf P t = some ti) (hk : ti.kd = .map)
    (hki : tiOf P ti.key = some ki) (hm : ev q.E m = .map id) (hid : id < q.S.length) (hS : q.S.getD id .any = .mp kd kvs) (hkd : kd = ki.kd) (hx : keyOk kd (ev q.E k) = true) (hxv : rigid (ev q.E k) = some kv) :
    OpOk P q o .any none { q with S := q.S.set id (.mp kd (mapPut kvs (ev q.E k) (dup (ev q.E y)))) } := by
  have hmt := tiOf_map ht hk
  obtain ⟨_, d, _, hd, hkd', _⟩ := tiOf_und hki
  refine op_skip fun fr a c hr => ?_
  obtain ⟨g, es, clock, e1, hg, hh, hst, hs, hkk, hI, hrep⟩ := mp_rep hr hm hS
  obtain ⟨O, hrk⟩ := hr.evr k
  have hkv : a.eval k = kv := by
    generalize hz : ev q.E k = x at *
    cases x <;> simp only [rigid] at hxv <;> try (cases hxv; done)
    · cases hxv; exact rep_int hrk
    · cases hxv; exact rep_bool hrk
    · cases hxv; exact rep_str hrk
  have hgd : ∀ j, (es.toList.getD j ⟨undef, undef, 0⟩) = es.getD j ⟨undef, undef, 0⟩ := fun j => by simp [List.getD_eq_getElem?_getD, Array.getD_eq_getD_getElem?]
  have hfind := mapGet_find hx hxv (hkd.trans hkd') kvs es.toList 0 (by simpa using hs) (fun i hi => by rw [hgd]; exact hkk i hi)
  have hck := MapKept.run_checkKey (P := P) (w := c.w) hd (keyOk_isKey hx hxv (hkd.trans hkd')) false 9999
  have hyr := hr.evd y
  rcases hfind with ⟨g1, g2, g3, g4⟩ | ⟨j, hj, g1, g2, g3, g4⟩
  · have hf := MapKept.run_findKey (P := P) (w := c.w) hd g2
    refine ⟨_, ?_, Rel.setMap (es' := es.push { key := kv, val := a.eval y, born := clock }) (clock' := clock + 1) (kvs' := mapPut kvs (ev q.E k) (dup (ev q.E y))) hr hid hg.symm hS hh hI (MapKept.stamped_push hst g3) (by rw [g4]; simp [hs]) (fun i hi => ?_) (fun i hi => ?_)⟩
    · simp [execOp, ho, Instr.mapUpdate, e1, hkv, run_underlying hmt, MapKept.run_getObj_map hh, hck, hf, MapKept.run_setObj_map _ hh]
    · rw [g4] at hi ⊢
      simp only [List.length_append, List.length_cons, List.length_nil] at hi
      by_cases e : i = kvs.length
      · subst e
        have h1 : (kvs ++ [(ev q.E k, dup (ev q.E y))]).getD kvs.length (.any, .any) = (ev q.E k, dup (ev q.E y)) := by simp [List.getD_eq_getElem?_getD]
        have h2 : (es.push { key := kv, val := a.eval y, born := clock }).getD kvs.length ⟨undef, undef, 0⟩ = { key := kv, val := a.eval y, born := clock } := by rw [← hs]; simp [Array.getD_eq_getD_getElem?]
        rw [h1, h2]; exact ⟨hxv, hx⟩
      · have hi' : i < kvs.length := by omega
        have h1 : (kvs ++ [(ev q.E k, dup (ev q.E y))]).getD i (.any, .any) = kvs.getD i (.any, .any) := by simp [List.getD_eq_getElem?_getD, List.getElem?_append, hi']
        have h2 : (es.push { key := kv, val := a.eval y, born := clock }).getD i ⟨undef, undef, 0⟩ = es.getD i ⟨undef, undef, 0⟩ := by simp [Array.getD_eq_getD_getElem?, Array.getElem?_push, show i ≠ es.size by omega]
        rw [h1, h2]; exact hkk i hi'
    · rw [g4] at hi ⊢
      simp only [List.length_append, List.length_cons, List.length_nil] at hi
      by_cases e : i = kvs.length
      · subst e
        have h1 : (kvs ++ [(ev q.E k, dup (ev q.E y))]).getD kvs.length (.any, .any) = (ev q.E k, dup (ev q.E y)) := by simp [List.getD_eq_getElem?_getD]
        have h2 : (es.push { key := kv, val := a.eval y, born := clock }).getD kvs.length ⟨undef, undef, 0⟩ = { key := kv, val := a.eval y, born := clock } := by rw [← hs]; simp [Array.getD_eq_getD_getElem?]
        rw [h1, h2]; exact hyr
      · have hi' : i < kvs.length := by omega
        have h1 : (kvs ++ [(ev q.E k, dup (ev q.E y))]).getD i (.any, .any) = kvs.getD i (.any, .any) := by simp [List.getD_eq_getElem?_getD, List.getElem?_append, hi']
        have h2 : (es.push { key := kv, val := a.eval y, born := clock }).getD i ⟨undef, undef, 0⟩ = es.getD i ⟨undef, undef, 0⟩ := by simp [Array.getD_eq_getD_getElem?, Array.getElem?_push, show i ≠ es.size by omega]
        rw [h1, h2]; exact hrep i hi'
  · rw [hgd, Nat.zero_add] at g1
    have hf := MapKept.run_findKey (P := P) (w := c.w) hd g1
    have hj' : j < es.size := by omega
    have hej : es[j]? = some (es.getD j ⟨undef, undef, 0⟩) := by simp [Array.getD_eq_getD_getElem?, hj']
    rw [hgd] at g3
    have hkey : (es[j]?.map (·.key)).getD kv = kv := by rw [hej]; exact g3
    have hsb := sameBits_rigid hx hxv 9999
    have hget : ∀ i, (es.modify j fun e => { e with key := kv, val := a.eval y }).getD i ⟨undef, undef, 0⟩ = if i = j then { (es.getD j ⟨undef, undef, 0⟩) with key := kv, val := a.eval y } else es.getD i ⟨undef, undef, 0⟩ := fun i => by
      rw [Array.getD_eq_getD_getElem?, Array.getElem?_modify]
      by_cases e : j = i
      · subst e; rw [if_pos rfl, if_pos rfl, hej]; rfl
      · rw [if_neg e, if_neg (Ne.symm e), Array.getD_eq_getD_getElem?]
    have hgetk : ∀ i, (kvs.set j ((kvs.getD j (.any, .any)).1, dup (ev q.E y))).getD i (.any, .any) = if i = j then ((kvs.getD j (.any, .any)).1, dup (ev q.E y)) else kvs.getD i (.any, .any) := fun i => by
      by_cases e : i = j
      · subst e; rw [if_pos rfl]; simp [List.getD_eq_getElem?_getD, hj]
      · rw [if_neg e]; simp only [List.getD_eq_getElem?_getD, List.getElem?_set_ne (Ne.symm e)]
    refine ⟨_, ?_, Rel.setMap (es' := es.modify j fun e => { e with key := kv, val := a.eval y }) (clock' := clock) (kvs' := mapPut kvs (ev q.E k) (dup (ev q.E y))) hr hid hg.symm hS hh hI
      (MapKept.stamped_modify hst j _ (fun e _ => rfl) (fun e _ he => by rw [hej] at he; cases he; exact g3.symm)) (by rw [g4]; simp [hs]) (fun i hi => ?_) (fun i hi => ?_)⟩
    · simp [execOp, ho, Instr.mapUpdate, e1, hkv, run_underlying hmt, MapKept.run_getObj_map hh, hck, hf, MapKept.run_setObj_map _ hh, Instr.keyThatStays, hkey, hsb]
    · rw [g4] at hi ⊢
      rw [hget, hgetk]
      split
      · have := hkk j hj; rw [g3] at this; exact this
      · exact hkk i (by simpa using hi)
    · rw [g4] at hi ⊢
      rw [hget, hgetk]
      split
      · exact hyr
      · exact hrep i (by simpa using hi)
theorem ok_makeMap {o : Oper} {q : Q} {t : TypeId} {kd : KD} (ho : o.op = .makeMap t none) : OpOk P q o (.map q.S.length) none { q with S := q.S ++ [.mp kd []] } := by
  refine op_val fun fr a c hr => ?_
  obtain ⟨ow, hr⟩ := hr
  obtain ⟨hb1, hb2⟩ := MapKept.heap_alloc c.w (.map #[] 0)
  have hn := hr.sto.n
  have hsize : (c.w.alloc (.map #[] 0)).heap.size = c.w.heap.size + 1 := by simp
  let c' : Cx := { c with w := c.w.alloc (.map #[] 0), n := c.n + 1, ι := fun id => if id = c.n then c.w.heap.size else c.ι id }
  have hext : Ext c c' (fun _ => False) :=
    ⟨Nat.le_succ _, fun id hid => by show (if id = c.n then _ else _) = _; rw [if_neg (Nat.ne_of_lt hid)], fun _ _ h => h, fun b o hb => World.cell?_of_block (w := c.w) (hb2 b (hr.sto.bd b o hb)), by show _ ≤ (c.w.alloc _).heap.size; omega, fun b hb _ => hb2 b hb, fun _ _ _ _ h => h, (fun _ _ _ _ h _ => False.elim h), rfl, rfl, rfl⟩
  let o' : Ow := fun k => match k with
    | .sto id => if id = q.S.length then [c.w.heap.size] else ow (.sto id)
    | .arg _ => []
    | k => ow k
  have sub : ∀ k g, g ∈ o' k → (k = .sto q.S.length ∧ g = c.w.heap.size) ∨ g ∈ ow k := fun k g hg => by
    cases k with
    | sto id =>
      simp only [o'] at hg
      split at hg
      · rename_i e; subst e; exact .inl ⟨rfl, by simpa using hg⟩
      · exact .inr hg
    | arg i => simp [o'] at hg
    | env t => exact .inr hg
  refine ⟨c', .map (some c.w.heap.size), ?_, ⟨o', hr.len, hr.alen, fun t ht => (hr.env t ht).ext hext (by simp), hr.al, ⟨by show c.n + 1 = _; simp [hn], fun id hid => ?_, fun b p hb => ?_⟩, fun i hi => ?_, rfl, ⟨fun k => ?_, fun k k' g hne hg hg' => ?_⟩, hr.ext.trans hext (fun _ _ h => h.elim), fun k g hg => ?_, hr.df⟩, fun _ _ h => by cases h⟩
  · have hm : (Instr.makeMap t none).run P c.w = .ok (.map (some c.w.heap.size)) (c.w.alloc (.map #[] 0)) := rfl
    simp only [execOp, ho, Option.map_none, Sem.run_bind]
    simp [hm, c']
  · have hid' : id < q.S.length + 1 := by simpa using hid
    by_cases e : id = q.S.length
    · subst e
      have h1 : (q.S ++ [LV.mp kd []]).getD q.S.length .any = .mp kd [] := by simp [List.getD_eq_getElem?_getD]
      show Rep c' ((q.S ++ [LV.mp kd []]).getD q.S.length .any) (oval ((q.S ++ [LV.mp kd []]).getD q.S.length .any) (c'.ι q.S.length)) (o' (.sto q.S.length))
      rw [h1]
      have h2 : c'.ι q.S.length = c.w.heap.size := by show (if q.S.length = c.n then _ else _) = _; rw [if_pos hn.symm]
      have h3 : o' (.sto q.S.length) = [c.w.heap.size] := by simp [o']
      rw [h2, h3]
      exact .mp kd [] _ #[] 0 hb1 (MapKept.stamped_empty 0) rfl (fun i hi => by simp at hi) (fun p hp => by have := hr.sto.bd _ p hp; omega) (fun i hi => by simp at hi)
    · have hlt : id < q.S.length := by omega
      have h1 : (q.S ++ [LV.mp kd []]).getD id .any = q.S.getD id .any := by simp [List.getD_eq_getElem?_getD, List.getElem?_append, hlt]
      show Rep c' ((q.S ++ [LV.mp kd []]).getD id .any) (oval ((q.S ++ [LV.mp kd []]).getD id .any) (c'.ι id)) (o' (.sto id))
      rw [h1]
      have h2 : c'.ι id = c.ι id := by show (if id = c.n then _ else _) = _; rw [if_neg (by omega)]
      have h3 : o' (.sto id) = ow (.sto id) := by simp [o', e]
      rw [h2, h3]
      exact (hr.sto.r id hlt).ext hext (by simp)
  · show b < (c.w.alloc (.map #[] 0)).heap.size
    have := hr.sto.bd b p hb
    omega
  · have : i = 0 := by simpa using hi
    subst this
    have h2 : c'.ι q.S.length = c.w.heap.size := by show (if q.S.length = c.n then _ else _) = _; rw [if_pos hn.symm]
    have := Rep.map (c := c') q.S.length (by show q.S.length < c.n + 1; omega)
    rw [h2] at this
    exact this
  · cases k with
    | sto id => simp only [o']; split <;> simp [hr.sep.nd]
    | arg i => exact List.nodup_nil
    | env t => exact hr.sep.nd _
  · rcases sub k g hg with ⟨rfl, rfl⟩ | h1 <;> rcases sub k' _ hg' with ⟨rfl, h2⟩ | h2
    · exact absurd rfl hne
    · have := (hr.own _ _ h2).1; omega
    · subst h2; have := (hr.own _ _ h1).1; omega
    · exact hr.sep.dj k k' g hne h1 h2
  · show g < (c.w.alloc (.map #[] 0)).heap.size ∧ _
    rcases sub k g hg with ⟨rfl, rfl⟩ | h1
    · exact ⟨by omega, .inr hr.ext.size⟩
    · exact ⟨by have := (hr.own k g h1).1; omega, (hr.own k g h1).2⟩
end
end Go.Lm
