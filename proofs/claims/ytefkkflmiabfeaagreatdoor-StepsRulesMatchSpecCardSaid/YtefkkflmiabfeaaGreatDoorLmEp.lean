/- Slices over objects: first parts, lengths, appends to what nobody else looks at. -/
import Derived.Test.YtefkkflmiabfeaaGreatDoorLmEo
set_option linter.unusedVariables false
set_option linter.unusedSimpArgs false
namespace Go.Lm
section
variable {R : Type} {P : Program} {T : Nat → Option TI} {C : Nat → Hd R}

/-- One object of the store goes, a new one comes. -/
theorem RelO.swap {fr : Fr} {q : Q} {a : Act} {c c' : Cx} {ow : Ow} {M : Nat → Prop} (hr : RelO fr q a c [] [] ow) (id g' : Nat) (x' : LV) (O' : List Nat) (hext : Ext c c' M) (hM : ∀ b, M b → id < q.S.length ∧ b ∈ ow (.sto id)) (hn : c'.n = c.n + 1) (hι : c'.ι c.n = g')
    (hbd : ∀ b p, c'.I b p → b < c'.w.heap.size) (hrep : Rep c' x' (oval x' g') O') (hnd : O'.Nodup) (hO : ∀ g, g ∈ O' → (id < q.S.length ∧ g ∈ ow (.sto id)) ∨ c.w.heap.size ≤ g) :
    Rel fr { q with S := q.S.set id .any ++ [x'] } a c' := by
  let o' : Ow := fun k => match k with
    | .sto i => if i = q.S.length then O' else if i = id ∨ q.S.length < i then [] else ow (.sto i)
    | .env t => ow (.env t)
    | .arg _ => []
  have sub : ∀ k g, g ∈ o' k → (k = .sto q.S.length ∧ g ∈ O') ∨ (g ∈ ow k ∧ k ≠ .sto id ∧ (∀ i, k ≠ .arg i) ∧ k ≠ .sto q.S.length) := fun k g hg => by
    cases k with
    | env t => exact .inr ⟨hg, by simp, by simp, by simp⟩
    | arg i => simp [o'] at hg
    | sto i =>
      simp only [o'] at hg
      split at hg
      · rename_i e; subst e; exact .inl ⟨rfl, hg⟩
      · rename_i e1
        split at hg
        · simp at hg
        · rename_i e; exact .inr ⟨hg, by simp; omega, by simp, by simp [e1]⟩
  have hold : ∀ k g, k ≠ .sto id → g ∈ ow k → ¬ M g := fun k g hk hg hm => hr.sep.dj k (.sto id) g hk hg (hM g hm).2
  have hlen : q.S.length = c.n := hr.sto.n.symm
  refine ⟨o', hr.len, hr.alen, fun t ht => (hr.env t ht).ext hext (fun g hg => hold (.env t) g (by simp) hg), hr.al, ⟨by simp [hn, hlen], fun i hi => ?_, hbd⟩, fun i hi => absurd hi (by simp), rfl, ⟨fun k => ?_, fun k k' g hne h1 h2 => ?_⟩, ?_, fun k g hg => ?_, hr.df⟩
  · by_cases e : i = q.S.length
    · subst e
      have e1 : (q.S.set id .any ++ [x']).getD q.S.length .any = x' := by simp [List.getD_eq_getElem?_getD]
      rw [e1, hlen, hι]
      simp only [o', ← hlen, if_true]
      exact hrep
    · have hi' : i < q.S.length := by simp at hi; omega
      have e1 : (q.S.set id .any ++ [x']).getD i .any = (q.S.set id .any).getD i .any := getD_app_lt _ _ _ _ (by simpa using hi')
      rw [e1]
      by_cases e2 : i = id
      · subst e2
        rw [getD_set_self _ _ _ hi']
        simp only [o', e, if_false, true_or, if_true]
        exact .any _
      · rw [getD_set_other _ _ e2, hext.ι i (by rw [← hlen]; exact hi')]
        have : ¬ (i = id ∨ q.S.length < i) := by omega
        simp only [o', e, this, if_false]
        exact (hr.sto.r i hi').ext hext (fun g hg => hold (.sto i) g (by simpa using e2) hg)
  · cases k with
    | env t => exact hr.sep.nd _
    | arg i => exact List.nodup_nil
    | sto i =>
      simp only [o']
      split
      · exact hnd
      · split
        · exact List.nodup_nil
        · exact hr.sep.nd _
  · have hlt : ∀ k g, g ∈ ow k → g < c.w.heap.size := fun k g hg => (hr.own k g hg).1
    rcases sub k g h1 with ⟨e1, u1⟩ | ⟨u1, n1, _, m1⟩ <;> rcases sub k' g h2 with ⟨e2, u2⟩ | ⟨u2, n2, _, m2⟩
    · exact hne (e1.trans e2.symm)
    · rcases hO g u1 with ⟨_, h3⟩ | h3
      · exact hr.sep.dj k' (.sto id) g n2 u2 h3
      · have := hlt _ _ u2; omega
    · rcases hO g u2 with ⟨_, h3⟩ | h3
      · exact hr.sep.dj k (.sto id) g n1 u1 h3
      · have := hlt _ _ u1; omega
    · exact hr.sep.dj k k' g hne u1 u2
  · refine hr.ext.trans hext (fun b hb hm => ?_)
    rcases (hr.own _ b (hM b hm).2).2 with h | h
    · exact h
    · omega
  · have hs := hext.size
    rcases sub k g hg with ⟨rfl, h1⟩ | ⟨h1, _, _, _⟩
    · refine ⟨hrep.lt g h1, ?_⟩
      rcases hO g h1 with ⟨_, h3⟩ | h3
      · exact (hr.own _ g h3).2
      · exact .inr (Nat.le_trans hr.ext.size h3)
    · exact ⟨Nat.lt_of_lt_of_le (hr.own k g h1).1 hs, (hr.own k g h1).2⟩

theorem flatC_len {z : Nat} (ys : List LV) : (flatC z ys).length = ys.length * z := by
  unfold flatC
  split
  · rename_i h; rw [Nat.eq_of_beq_eq_true h]; simp
  · induction ys with
    | nil => simp
    | cons y ys ih => simp only [List.flatMap_cons, List.length_append, List.length_map, List.length_range, ih, List.length_cons, Nat.add_mul]; omega
theorem flatC_get {z : Nat} (hz : 0 < z) : ∀ (ys : List LV) (p : Nat), p < ys.length * z → (flatC z ys).getD p .any = leaf (ys.getD (p / z) .any) (p % z) := by
  intro ys p hp
  unfold flatC
  split
  · rename_i h
    have := Nat.eq_of_beq_eq_true h
    subst this
    have hp' : p < ys.length := by simpa using hp
    simp [List.getD_eq_getElem?_getD, hp', Nat.mod_one]
  · induction ys generalizing p with
    | nil => simp at hp
    | cons y ys ih =>
      simp only [List.flatMap_cons]
      rcases Nat.lt_or_ge p z with h | h
      · rw [getD_app_lt _ _ _ _ (by simpa using h), Nat.div_eq_of_lt h, Nat.mod_eq_of_lt h]
        simp [List.getD_eq_getElem?_getD, h]
      · rw [getD_app3, if_neg (by simpa using h)]
        simp only [List.length_map, List.length_range]
        rw [ih (p - z) (by simp only [List.length_cons, Nat.add_mul, Nat.one_mul] at hp; omega), Nat.mod_eq_sub_mod h, Nat.div_eq_sub_div hz h]
        rfl

/-- What an append to a slice over an object, or to nil, comes to. -/
theorem ok_appO {o : Oper} {q : Q} {x y : Operand} {t t' e : TypeId} {i : TypeInfo} {zv : Value} {z id n : Nat} {xs ys : List LV} (ho : o.op = .call { callee := .builtin .append, args := #[x, y], argTypes := #[t, t'] })
    (hd : P.underlying t = some (.slice e)) (hi : P.info? e = some i) (hsz : i.size = z) (hz : i.zero = some zv) (hzs : zv.cells.size = i.size)
    (hzo : ∀ p, p < zv.cells.size → (zv.cells.getD p undef).oneCell' = true) (hz0 : 0 < z)
    (hx : (∃ mk, MkO mk e ∧ ev q.E x = .osl id 0 z n ∧ q.S.getD id .any = mk xs ∧ n * z ≤ xs.length) ∨ (ev q.E x = .nilsl ∧ id = q.S.length ∧ n = 0 ∧ 0 < ys.length))
    (hy : ∀ {c : Cx} {w : Value} {O : List Nat}, Rep c (ev q.E y) w O → ∃ news : List Value, Src P z t' w ys.length news c.w ∧ news.length = ys.length * z ∧ (∀ p, p < ys.length * z → (news.getD p undef).oneCell' = true) ∧ ∀ p, p < ys.length * z → Rep c (leaf (ys.getD (p / z) .any) (p % z)) (news.getD p undef) [])
    (hb : (n + ys.length) * i.bytes ≤ 140737488355328) (h63 : n + ys.length ≤ 9223372036854775807) :
    OpOk P q o (.osl q.S.length 0 z (n + ys.length)) none { q with S := q.S.set id .any ++ [.vec e (xs.take (n * z) ++ flatC z ys)] } := by
  refine op_val fun fr a c hr => ?_
  obtain ⟨ow, hr⟩ := hr
  obtain ⟨Oy, ry⟩ := hr.evo y
  obtain ⟨Ox, rx⟩ := hr.evo x
  obtain ⟨news, hsrc, hnl, hn1, hnr⟩ := hy ry
  have hlen : q.S.length = c.n := hr.sto.n.symm
  -- the operand, in the machine's words
  have hown : ∃ (base : Option Addr) (cap : Nat) (cur : Array Value) (os : Nat → List Nat), a.eval x = .slice base n cap ∧ n ≤ cap ∧ cap ≤ 9223372036854775807 ∧ cap * z ≤ cur.size ∧ n * z ≤ cur.size ∧ n * z ≤ xs.length ∧
      (∀ p, p < cur.size → (cur.getD p undef).oneCell' = true) ∧ (∀ p, p < n * z → Rep c (xs.getD p .any) (cur.getD p undef) (os p)) ∧ (flatO (n * z) os).Nodup ∧
      ((base = none ∧ cap = 0 ∧ n = 0 ∧ 0 < ys.length) ∨ ∃ g, base = some ⟨g, 0, none⟩ ∧ id < q.S.length ∧ g ∈ ow (.sto id) ∧ c.w.heap[g]? = some (.cells cur e (0, 0)) ∧ (∀ p, ¬ c.I g p) ∧ g ∉ flatO (n * z) os) ∧
      (∀ p b, p < n * z → b ∈ os p → id < q.S.length ∧ b ∈ ow (.sto id)) := by
    rcases hx with ⟨mk, hm, hx, hS, hle⟩ | ⟨hx, he, hn, hpos⟩
    · rw [hx] at rx
      generalize hv : a.eval x = v at rx
      cases rx with
      | osl _ _ _ _ cap hid hcap hmax hzz =>
        obtain ⟨hidS, cur, os, hO, hs, hh, hI, ho1, hrep, _⟩ := hr.obj hm hS
        obtain ⟨cur', e', k', h1, h2⟩ := hzz
        rw [hh] at h1
        cases h1
        have hnd := hr.sep.nd (.sto id)
        rw [hO] at hnd
        obtain ⟨hg, hnd⟩ := List.nodup_cons.1 hnd
        obtain ⟨n1, n2⟩ := flatO_nd hnd
        refine ⟨_, cap, cur, os, rfl, hcap, hmax, by omega, by omega, hle, ho1, fun p hp => hrep p (by omega), flatO_nd_mk (fun p hp => n1 p (by omega)) (fun p k g hp hk hne hgp hgk => n2 p k g (by omega) (by omega) hne hgp hgk),
          .inr ⟨_, rfl, hidS, by rw [hO]; simp, hh, hI, fun h => hg (by obtain ⟨p, hp, hgp⟩ := flatO_mem.1 h; exact flatO_mem.2 ⟨p, by omega, hgp⟩)⟩, fun p b hp hb => ⟨hidS, by rw [hO]; exact List.mem_cons_of_mem _ (flatO_mem.2 ⟨p, by omega, hb⟩)⟩⟩
    · rw [hx] at rx
      generalize hv : a.eval x = v at rx
      cases rx
      subst hn
      exact ⟨none, 0, #[], fun _ => [], rfl, by omega, by omega, by simp, by simp, by simp, fun p hp => by simp at hp, fun p hp => by simp at hp, by simp [flatO], .inl ⟨rfl, rfl, rfl, hpos⟩, fun p b hp => by simp at hp⟩
  obtain ⟨base, cap, cur, os, hv, hcap, hmax, hcz, hnz, hxl, ho1, hrep, hnd, hbase, hos⟩ := hown
  rw [← hsz] at hsrc
  have run_it : ∀ {v : Value} {w' : World}, (Builtin.append_ #[t, t'] o.type #[a.eval x, a.eval y]).run P c.w = .ok v w' → (execOp a.eval o).run P c.w = .ok (.value v) w' := fun {v w'} h =>
    run_call_builtin ho (by simp [builtin, h])
  let os' : Nat → List Nat := fun p => if p < n * z then os p else []
  have hL : (xs.take (n * z) ++ flatC z ys).length = (n + ys.length) * z := by rw [List.length_append, List.length_take, flatC_len, Nat.add_mul]; omega
  have hfl : ∀ g, g ∈ flatO (xs.take (n * z) ++ flatC z ys).length os' → g ∈ flatO (n * z) os := fun g hg => by
    obtain ⟨p, hp, hgp⟩ := flatO_mem.1 hg
    simp only [os'] at hgp
    split at hgp
    · rename_i h; exact flatO_mem.2 ⟨p, h, hgp⟩
    · simp at hgp
  have hfn : (flatO (xs.take (n * z) ++ flatC z ys).length os').Nodup := by
    obtain ⟨n1, n2⟩ := flatO_nd hnd
    refine flatO_nd_mk (fun p hp => ?_) (fun p k g hp hk hne hgp hgk => ?_)
    · simp only [os']; split
      · rename_i h; exact n1 p h
      · exact List.nodup_nil
    · simp only [os'] at hgp hgk
      split at hgp
      · split at hgk
        · rename_i h1 h2; exact n2 p k g h1 h2 hne hgp hgk
        · simp at hgk
      · simp at hgp
  have hget : ∀ p, p < (n + ys.length) * z → (xs.take (n * z) ++ flatC z ys).getD p .any = if p < n * z then xs.getD p .any else leaf (ys.getD ((p - n * z) / z) .any) ((p - n * z) % z) := fun p hp => by
    have hl : (xs.take (n * z)).length = n * z := by rw [List.length_take]; omega
    rw [getD_app3, hl]
    split
    · rename_i h; simp only [List.getD_eq_getElem?_getD, List.getElem?_take]; rw [if_pos h]
    · rename_i h; rw [flatC_get hz0 _ _ (by rw [Nat.add_mul] at hp; omega)]
  -- a new row
  by_cases hroom : n + ys.length ≤ cap
  · rcases hbase with ⟨_, h0, h1, h2⟩ | ⟨g, rfl, hidS, hgo, hh, hI, hgf⟩
    · omega
    have hfit : n * i.size + news.length ≤ cur.size := by
      rw [hnl, hsz, ← Nat.add_mul]
      exact Nat.le_trans (Nat.mul_le_mul_right _ hroom) hcz
    have hrun := run_append_room_row (P := P) (ty := o.type) hd hi g n cap cur hh (a.eval y) ys.length news hsrc hroom hfit
    generalize hnew : (List.take (n * i.size) cur.toList ++ news ++ List.drop (n * i.size + news.length) cur.toList).toArray = new at hrun
    have hnews : new.size = cur.size := by subst hnew; simp; omega
    have hnget : ∀ p, new.getD p undef = if n * z ≤ p ∧ p < (n + ys.length) * z then news.getD (p - n * z) undef else cur.getD p undef := fun p => by
      subst hnew
      rw [getD_splice _ _ _ _ (by simp; omega), hnl, hsz, ← Nat.add_mul]
      congr 1
      simp [List.getD_eq_getElem?_getD, Array.getD_eq_getD_getElem?]
    have hother : ∀ b, b ≠ g → (c.w.setRow g new).heap[b]? = c.w.heap[b]? := fun b hb => setRow_other c.w g b new hb
    have hsize : (c.w.setRow g new).heap.size = c.w.heap.size := by simp [World.setRow]
    let c' : Cx := { c with w := c.w.setRow g new, n := c.n + 1, ι := fun k => if k = c.n then g else c.ι k }
    have hglt : g < c.w.heap.size := (Array.getElem?_eq_some_iff.1 hh).1
    have hext : Ext c c' (fun b => b = g) := ⟨Nat.le_succ _, fun k hk => by show (if k = c.n then _ else _) = _; rw [if_neg (Nat.ne_of_lt hk)], fun _ _ h => h,
      fun b p hp => World.cell?_of_block (w := c.w) (hother b (fun e => hI p (e ▸ hp))), by show _ ≤ (c.w.setRow g new).heap.size; omega,
      fun b _ hb => hother b hb, fun _ _ _ _ h => h, (fun b _ _ _ hb h => by subst hb; rw [hh] at h; cases h; exact ⟨new, _, setRow_heap c.w _ cur new _ (0, 0) hh, hnews⟩), rfl, rfl, rfl⟩
    have hvec : Rep c' (.vec e (xs.take (n * z) ++ flatC z ys)) (.pointer (some ⟨g, 0, none⟩)) (g :: flatO (xs.take (n * z) ++ flatC z ys).length os') := by
      refine .vec e _ g new os' (by rw [hL, hnews]; exact Nat.le_trans (Nat.mul_le_mul_right _ hroom) hcz) (setRow_heap c.w g cur new e (0, 0) hh) hI (fun p hp => ?_) (fun p hp => ?_)
      · rw [hnget]
        split
        · rename_i h; exact hn1 _ (by rw [Nat.add_mul] at h; omega)
        · exact ho1 p (by omega)
      · rw [hL] at hp
        rw [hget p hp, hnget]
        by_cases h : p < n * z
        · rw [if_pos h, if_neg (by omega)]
          simp only [os', if_pos h]
          exact (hrep p h).ext hext (fun b hb e => by subst e; exact hgf (flatO_mem.2 ⟨p, h, hb⟩))
        · rw [if_neg h, if_pos ⟨by omega, hp⟩]
          simp only [os', if_neg h]
          exact (hnr _ (by rw [Nat.add_mul] at hp; omega)).ext hext (fun g hg => by simp at hg)
    have hrel := hr.swap (c' := c') id g (.vec e (xs.take (n * z) ++ flatC z ys)) _ hext (fun b hb => ⟨hidS, hb ▸ hgo⟩) rfl (by show (if c.n = c.n then _ else _) = _; simp) (fun b p hp => by show b < (c.w.setRow g new).heap.size; rw [hsize]; exact hr.sto.bd b p hp) hvec
      (List.nodup_cons.2 ⟨fun h => hgf (hfl g h), hfn⟩) (fun b hb => by
        rcases List.mem_cons.1 hb with rfl | hb
        · exact .inl ⟨hidS, hgo⟩
        · obtain ⟨p, hp, hbp⟩ := flatO_mem.1 (hfl b hb)
          exact .inl (hos p b hp hbp))
    obtain ⟨o1, h1⟩ := hrel
    refine ⟨c', .slice (some ⟨g, 0, none⟩) (n + ys.length) cap, run_it (by rw [hv]; exact hrun), h1.fly1 ?_, fun _ _ h => by cases h⟩
    have hι : c'.ι q.S.length = g := by show (if q.S.length = c.n then _ else _) = _; rw [if_pos hlen]
    have := Rep.osl (c := c') q.S.length 0 z (n + ys.length) cap (by show _ < c.n + 1; omega) hroom hmax ⟨new, e, (0, 0), by rw [hι]; exact setRow_heap c.w g cur new e (0, 0) hh, by rw [hnews]; omega⟩
    rw [hι] at this
    exact this
  · have hfirst : (Builtin.firstCells i.size n (.slice base n cap)).run P c.w.drew = .ok (cur.toList.take (n * z)).toArray c.w.drew := by
      rcases hbase with ⟨rfl, rfl, rfl, _⟩ | ⟨g, rfl, _, _, hh, _, _⟩
      · simp [Builtin.firstCells]
      · refine run_firstCells_some c.w.drew i.size n _ _ _ _ (by simp [hsz]; omega) (fun j v hj => ?_)
        rw [Addr.add_lit]
        rw [List.getElem?_take] at hj
        split at hj
        · rename_i hjl
          have : j < cur.size := by omega
          simp [this] at hj
          subst hj
          show c.w.cell? _ = _
          simp [World.cell?, hh, this]
        · cases hj
    have hol : (cur.toList.take (n * z)).length = n * z := by simp; omega
    have hog : ∀ p, p < n * z → (cur.toList.take (n * z)).getD p undef = cur.getD p undef := fun p hp => by
      simp [List.getD_eq_getElem?_getD, List.getElem?_take, hp, Array.getD_eq_getD_getElem?]
    have hrun := run_append_grow_src (P := P) c.w t t' o.type e i zv hd hi hz base n cap _ hfirst (a.eval y) ys.length news hsrc (by omega) (by omega) (growslice_fits (by omega) hb)
    generalize hcells : (((cur.toList.take (n * z)) ++ news).toArray ++ Builtin.zeroCells zv.cells (grownCap c.w (n + ys.length) cap e - (n + ys.length))) = cells at hrun
    have hge := grownCap_ge c.w (n + ys.length) cap e
    have hle : grownCap c.w (n + ys.length) cap e ≤ 9223372036854775807 := grownCap_le_maxLen c.w (n + ys.length) cap e (by unfold maxLen; omega)
    generalize hcap' : grownCap c.w (n + ys.length) cap e = cap' at *
    have hl2 : ((cur.toList.take (n * z)) ++ news).length = (n + ys.length) * z := by rw [List.length_append, hol, hnl, Nat.add_mul]
    have hsize : cells.size = cap' * z := by
      subst hcells
      simp only [Array.size_append, List.size_toArray, hl2, size_zeroCells, hzs, hsz, ← Nat.add_mul]
      congr 1; omega
    have hcget : ∀ p, p < (n + ys.length) * z → cells.getD p undef = if p < n * z then cur.getD p undef else news.getD (p - n * z) undef := fun p hp => by
      subst hcells
      simp only [Array.getD_eq_getD_getElem?]
      rw [Array.getElem?_append_left (by simpa [hl2] using hp)]
      simp only [List.getElem?_toArray]
      split
      · rename_i h
        rw [List.getElem?_append_left (by omega)]
        have := hog p h
        simp only [List.getD_eq_getElem?_getD, Array.getD_eq_getD_getElem?] at this
        exact this
      · rename_i h
        rw [List.getElem?_append_right (by omega), hol]
        simp [List.getD_eq_getElem?_getD]
    have hall : ∀ p, p < cells.size → (cells.getD p undef).oneCell' = true := fun p hp => by
      by_cases h : p < (n + ys.length) * z
      · rw [hcget p h]
        split
        · rename_i h2; exact ho1 p (by omega)
        · rename_i h2; exact hn1 _ (by rw [Nat.add_mul] at h; omega)
      · subst hcells
        simp only [Array.getD_eq_getD_getElem?]
        rw [Array.getElem?_append_right (by simp [hl2]; omega)]
        unfold Builtin.zeroCells
        simp only [List.size_toArray, hl2]
        have hp' : p - (n + ys.length) * z < (cap' - (n + ys.length)) * zv.cells.size := by
          simp only [Array.size_append, List.size_toArray, hl2, size_zeroCells] at hp; omega
        have hz1 : 0 < zv.cells.size := by omega
        have hm := Nat.mod_lt (p - (n + ys.length) * z) hz1
        have := hzo _ hm
        simpa [hp', hm, Array.getD_eq_getD_getElem?] using this
    let c' : Cx := { c with w := c.w.drew.alloc (.cells cells e), n := c.n + 1, ι := fun k => if k = c.n then c.w.heap.size else c.ι k }
    have hlt : ∀ b, b < c.w.heap.size → (c.w.drew.alloc (.cells cells e)).heap[b]? = c.w.heap[b]? := fun b hb => by
      show (c.w.heap.push _)[b]? = _
      rw [Array.getElem?_push, if_neg (by omega)]
    have hnewb : (c.w.drew.alloc (.cells cells e)).heap[c.w.heap.size]? = some (.cells cells e (0, 0)) := heap_alloc_new c.w.drew _
    have hext : Ext c c' (fun _ => False) := ⟨Nat.le_succ _, fun k hk => by show (if k = c.n then _ else _) = _; rw [if_neg (Nat.ne_of_lt hk)], fun _ _ h => h, fun b p hp => World.cell?_of_block (w := c.w) (hlt b (hr.sto.bd b p hp)), by show _ ≤ (c.w.heap.push _).size; simp, fun b hb _ => hlt b hb,
      fun _ _ _ _ h => h, (fun _ _ _ _ h _ => False.elim h), rfl, rfl, rfl⟩
    have hvec : Rep c' (.vec e (xs.take (n * z) ++ flatC z ys)) (.pointer (some ⟨c.w.heap.size, 0, none⟩)) (c.w.heap.size :: flatO (xs.take (n * z) ++ flatC z ys).length os') := by
      refine .vec e _ _ cells os' (by rw [hL, hsize]; exact Nat.mul_le_mul_right _ hge) hnewb (fun p hp => by have := hr.sto.bd _ _ hp; omega) hall (fun p hp => ?_)
      rw [hL] at hp
      rw [hget p hp, hcget p hp]
      by_cases h : p < n * z
      · rw [if_pos h, if_pos h]
        simp only [os', if_pos h]
        exact (hrep p h).ext hext (fun b _ e => e.elim)
      · rw [if_neg h, if_neg h]
        simp only [os', if_neg h]
        exact (hnr _ (by rw [Nat.add_mul] at hp; omega)).ext hext (fun g hg => by simp at hg)
    have hold : ∀ b, b ∈ flatO (n * z) os → id < q.S.length ∧ b ∈ ow (.sto id) := fun b hb => by
      obtain ⟨p, hp, hbp⟩ := flatO_mem.1 hb
      exact hos p b hp hbp
    have hrel := hr.swap (c' := c') id c.w.heap.size (.vec e (xs.take (n * z) ++ flatC z ys)) _ hext (fun b hb => hb.elim) rfl (by show (if c.n = c.n then _ else _) = _; simp) (fun b p hp => by show b < (c.w.heap.push _).size; have := hr.sto.bd b p hp; simp; omega) hvec
      (List.nodup_cons.2 ⟨fun h => by have := (hr.own _ _ (hold _ (hfl _ h)).2).1; omega, hfn⟩) (fun b hb => by
        rcases List.mem_cons.1 hb with rfl | hb
        · exact .inr (Nat.le_refl _)
        · exact .inl (hold b (hfl b hb)))
    obtain ⟨o1, h1⟩ := hrel
    refine ⟨c', .slice (some ⟨c.w.heap.size, 0, none⟩) (n + ys.length) cap', run_it (by rw [hv]; exact hrun), h1.fly1 ?_, fun _ _ h => by cases h⟩
    have hι : c'.ι q.S.length = c.w.heap.size := by show (if q.S.length = c.n then _ else _) = _; rw [if_pos hlen]
    have := Rep.osl (c := c') q.S.length 0 z (n + ys.length) cap' (by show _ < c.n + 1; omega) hge hle ⟨cells, e, (0, 0), by rw [hι]; exact hnewb, by rw [hsize]; omega⟩
    rw [hι] at this
    exact this
theorem ok_buildO {o : Oper} {q : Q} {t e : TypeId} {ps : Array (Nat × Operand)} {i : TypeInfo} {sz : Nat} (ho : o.op = .buildSlice t 0 ps) (hps : ps.toList = []) (hd : P.underlying t = some (.slice e)) (hi : P.info? e = some i) :
    OpOk P q o (.osl q.S.length 0 sz 0) none { q with S := q.S ++ [.obj e []] } := by
  refine op_val fun fr a c hr => ?_
  obtain ⟨ow, hr⟩ := hr
  have hp : ps = #[] := Array.ext' (by simpa using hps)
  subst hp
  obtain ⟨c', hw, hι, hlt, hrel⟩ := hr.newObj (.cells #[] e) (.obj e []) (fun c' hw hext hI =>
    rep_obj0 hw hI rfl (fun p hp => by simp at hp) (fun p hp => by simp at hp))
  obtain ⟨o1, hrel⟩ := hrel
  refine ⟨c', .slice (some ⟨c.w.heap.size, 0, none⟩) 0 0, ?_, hrel.fly1 (by rw [← hι]; exact .osl _ _ _ _ _ hlt (Nat.le_refl _) (by omega) ⟨#[], e, (0, 0), by rw [hι, hw]; exact heap_alloc_new _ _, by simp⟩), fun _ _ h => by cases h⟩
  rw [hw]
  have e0 : (Array.map (fun _ => (default : Value)) (Array.range 0)) = #[] := by simp
  simp [execOp, ho, Instr.buildSlice, run_underlying hd, sizeOf, typeInfo, hi, Instr.fill, newRow, e0]
  try rfl
theorem ok_moveDup {o : Oper} {q : Q} {x : Operand} (ho : o.op = .move x) : OpOk P q o (dup (ev q.E x)) none q :=
  op_pure fun fr a c hr => ⟨a.eval x, by simp [execOp, ho], hr.evd x⟩
theorem ok_moveSl {o : Oper} {q : Q} {x : Operand} {z : Nat} {xs : List LV} (ho : o.op = .move x) (hx : ∀ {c : Cx} {w : Value} {O : List Nat}, Rep c (ev q.E x) w O → Rep c (.sl z xs) w []) : OpOk P q o (.sl z xs) none q :=
  op_pure fun fr a c hr => by
    obtain ⟨O, r⟩ := hr.evr x
    exact ⟨a.eval x, by simp [execOp, ho], hx r⟩
/-- A first part of a slice over an object. -/
theorem ok_slO {o : Oper} {q : Q} {t e : TypeId} {i : TypeInfo} {x hi : Operand} {z id p n : Nat} {k : IntKind} {m : Int} (ho : o.op = .slice t x none (some hi) none) (hd : P.underlying t = some (.slice e)) (he : P.info? e = some i)
    (hx : ev q.E x = .osl id p z n) (hh : ev q.E hi = .int k m) (h0 : 0 ≤ m) (h1 : m ≤ n) : OpOk P q o (.osl id p z m.toNat) none q :=
  op_pure fun fr a c hr => by
    obtain ⟨O, r⟩ := hr.evr x
    rw [hx] at r
    generalize hv : a.eval x = zz at r
    cases r with
    | osl _ _ _ _ cap hid hcap hmax hz =>
      have hb := run_bounds (P := P) hr true n cap none (some hi) 0 m rfl ⟨k, hh⟩ (Int.le_refl _) h0 h1 hcap
      refine ⟨.slice (some ⟨c.ι id, p, none⟩) m.toNat cap, ?_, .osl id p z m.toNat cap hid (by omega) hmax hz⟩
      have e1 : (⟨c.ι id, p, none⟩ : Addr).add 0 = ⟨c.ι id, p, none⟩ := by rw [Addr.add_lit, Nat.add_zero]
      simp only [Option.map_none, Option.map_some] at hb
      simp [execOp, ho, Instr.sliceAt, Instr.slice, run_underlying hd, hv, hb, sizeOf, typeInfo, he, e1]
theorem ok_slNil {o : Oper} {q : Q} {t e : TypeId} {i : TypeInfo} {x hi : Operand} {k : IntKind} (ho : o.op = .slice t x none (some hi) none) (hd : P.underlying t = some (.slice e)) (he : P.info? e = some i)
    (hx : ev q.E x = .nilsl) (hh : ev q.E hi = .int k 0) : OpOk P q o .nilsl none q :=
  op_pure fun fr a c hr => by
    obtain ⟨O, r⟩ := hr.evr x
    rw [hx] at r
    generalize hv : a.eval x = zz at r
    cases r
    have hb := run_bounds (P := P) hr true 0 0 none (some hi) 0 0 rfl ⟨k, hh⟩ (Int.le_refl _) (Int.le_refl _) (Int.le_refl _) (Nat.le_refl _)
    refine ⟨.slice none 0 0, ?_, .nilsl⟩
    simp only [Option.map_none, Option.map_some] at hb
    simp [execOp, ho, Instr.sliceAt, Instr.slice, run_underlying hd, hv, hb, sizeOf, typeInfo, he]
theorem ok_lenNil {o : Oper} {q : Q} {x : Operand} {ts : Array TypeId} {t e : TypeId} (ho : o.op = .call { callee := .builtin .len, args := #[x], argTypes := ts })
    (ht : ts[0]? = some t) (hd : P.underlying t = some (.slice e)) (hx : ev q.E x = .nilsl) : OpOk P q o (.int .i64 ((0 : Nat) : Int)) none q :=
  op_pure fun fr a c hr => by
    obtain ⟨O, r⟩ := hr.evr x
    rw [hx] at r
    generalize hv : a.eval x = zz at r
    cases r
    exact ⟨_, run_call_builtin ho (by simp [builtin, Builtin.len_, ht, run_underlying hd, hv, goInt]), .int _ _⟩
theorem ok_load_raw {o : Oper} {q : Q} {t : TypeId} {ti : TI} {x : Operand} {id p : Nat} {mk : List LV → LV} {ty : TypeId} {xs : List LV} (hm : MkO mk ty) (ho : o.op = .load t x) (ht : tiOf P t = some ti) (hk : isAggK ti.kd = false) (hx : ev q.E x = .ptr id p) (hS : q.S.getD id .any = mk xs)
    (hp : p < xs.length) : OpOk P q o (dupL (xs.getD p .any)) none q := by
  obtain ⟨i, d, hi, hd, hkd, hlk, _⟩ := tiOf_und ht
  refine op_pure fun fr a c hr => ?_
  obtain ⟨O, r⟩ := hr.evr x
  rw [hx] at r
  generalize hv : a.eval x = z at r
  cases r with
  | ptr _ _ hid =>
    obtain ⟨ow, hr⟩ := hr
    obtain ⟨hid, cur, _, _, hs, hh, hI, h1, hrep, _⟩ := hr.obj hm hS
    refine ⟨cur.getD p undef, ?_, (hrep p hp).dupL⟩
    have hc : c.w.cell? ⟨c.ι id, p, none⟩ = some (cur.getD p undef) := by
      have : p < cur.size := Nat.lt_of_lt_of_le hp hs
      simp [World.cell?, hh, this, Array.getD_eq_getD_getElem?]
    have := run_loadAt_leaf (P := P) (w := c.w) hd (by rw [← hkd]; exact hk) ⟨c.ι id, p, none⟩ _ hc
    simp [execOp, ho, hv, this]
end
end Go.Lm
